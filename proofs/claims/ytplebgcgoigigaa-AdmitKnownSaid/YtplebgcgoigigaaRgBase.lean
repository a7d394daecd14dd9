/-
  The reference's gate (interlockref17): how it lies; walks of fits, Right, New, At.
  No condition but sizes.
-/
import Derived.Test.YtplebgcgoigigaaAdFits
import Derived.Test.YtplebgcgoigigaaFlat
namespace Go.Proofs.Ytplebgcgoigigaa
open Go Go.RowKit Go.Maps Go.Shelf


section
variable {α : Type} {f : α → List Value} {n : Nat}
theorem flat_parts (hf : ∀ x, (f x).length = n) {l : List α} {k : Nat} (hk : k ≤ l.length) : (l.flatMap f).take (k * n) = (l.take k).flatMap f ∧ (l.flatMap f).drop (k * n) = (l.drop k).flatMap f := by
  have h1 : (l.take k).flatMap f ++ (l.drop k).flatMap f = l.flatMap f := by rw [← List.flatMap_append, List.take_append_drop]
  have h2 : ((l.take k).flatMap f).length = k * n := by rw [flat_len hf, List.length_take, Nat.min_eq_left hk]
  rw [← h1]
  exact ⟨List.take_left' h2, List.drop_left' h2⟩
end
abbrev MR := Int × Nd
def vals5 (r : MR) : List Value := [.int .i64 r.1, .int .i64 r.2.proc, .bool r.2.single, .int .i64 r.2.l, .int .i64 r.2.u]
def flatM (g : List MR) : List Value := g.flatMap vals5
theorem flatM_one (g : List MR) : ∀ u ∈ flatM g, u.oneCell' = true := by
  intro u hu
  simp only [flatM, List.mem_flatMap, vals5] at hu
  obtain ⟨r, _, hu⟩ := hu
  simp only [List.mem_cons, List.not_mem_nil, or_false] at hu
  rcases hu with rfl | rfl | rfl | rfl | rfl <;> rfl
abbrev one5 (x : Int) (n : Nd) : Value := .agg #[.int .i64 x, .int .i64 n.proc, .bool n.single, .int .i64 n.l, .int .i64 n.u]

/-- The reference's gate at rb: all that it is lies behind B. -/
structure RG (B : Nat) (w : World) (rb : Nat) (c : CapD) (M : List MR) (lv : Value) : Prop where
  root : Bk w rb 63 [.int .i64 c.n, .int .i64 c.l, .int .i64 c.u, lv]
  own : w.ownsRow 0 67 5 lv M.length (flatM M)
  fresh : ∀ k, lv.ownBlock = some k → B ≤ k ∧ k ≠ rb
  rbB : B ≤ rb
def RGat (B : Nat) (w : World) (rb : Nat) (c : CapD) (M : List MR) : Prop := ∃ lv, RG B w rb c M lv
section
variable {B : Nat} {w w' : World} {rb : Nat} {c : CapD} {M : List MR} {lv : Value} {S : Nat → Prop}
theorem RG.fr (h : RG B w rb c M lv) (hf : Fr w w' S) (hd : ∀ k, B ≤ k → ¬ S k) : RG B w' rb c M lv :=
  ⟨h.root.fr hf (hd _ h.rbB), hf.own h.own fun k hk hs => hd k (h.fresh k hk).1 hs, h.fresh, h.rbB⟩
theorem RGat.fr (h : RGat B w rb c M) (hf : Fr w w' S) (hd : ∀ k, B ≤ k → ¬ S k) : RGat B w' rb c M := by
  obtain ⟨lv, h⟩ := h
  exact ⟨lv, h.fr hf hd⟩
theorem RGat.fr0 (h : RGat B w rb c M) (hf : Fr w w' Nil) : RGat B w' rb c M := h.fr hf fun _ _ h => h
theorem RG.fr0 (h : RG B w rb c M lv) (hf : Fr w w' Nil) : RG B w' rb c M lv := h.fr hf fun _ _ h => h
theorem RG.sl (h : RG B w rb c M lv) : SlAt w 5 lv M.length (flatM M) := (SlAt.of_own h.own).1
theorem RG.cap (h : RG B w rb c M lv) : CapOk lv := (SlAt.of_own h.own).2
theorem RG.cells (h : RG B w rb c M lv) {i : Nat} {r : MR} (hr : M[i]? = some r) :
    ∃ b off cap, lv = .slice (some ⟨b, off, none⟩) M.length cap ∧ w.cell? ⟨b, off + i * 5, none⟩ = some (.int .i64 r.1) ∧ w.cell? ⟨b, off + i * 5 + 1, none⟩ = some (.int .i64 r.2.proc) ∧ w.cell? ⟨b, off + i * 5 + 2, none⟩ = some (.bool r.2.single) ∧ w.cell? ⟨b, off + i * 5 + 3, none⟩ = some (.int .i64 r.2.l) ∧ w.cell? ⟨b, off + i * 5 + 4, none⟩ = some (.int .i64 r.2.u) := by
  have hi := (List.getElem?_eq_some_iff.1 hr).1
  obtain ⟨b, off, cap, hv, hc⟩ := flat_form (n := 5) (f := vals5) (fun _ => rfl) (by decide) h.sl (by omega)
  exact ⟨b, off, cap, hv, hc i r hr 0 _ rfl, hc i r hr 1 _ rfl, hc i r hr 2 _ rfl, hc i r hr 3 _ rfl, hc i r hr 4 _ rfl⟩
end

set_option maxRecDepth 100000 in
set_option maxHeartbeats 400000 in
theorem rfits_any (x : Int) (w : World) : Calls Try.prog 23 #[.int .i64 x] w fun e w' => e = .returned (.bool (fitsN x)) ∧ w = w' := by
  by_cases h0 : 0 ≤ x
  · by_cases h1 : x ≤ 4611686018427387904
    · have HF : Hid (fitsN x = true) := fitsN_iff.2 ⟨h0, h1⟩
      go_enter Try.func23, Try.ntmps23
      go_wp2_with fail
      go_ret
      exact ⟨by rw [HF.out]; rfl, rfl⟩
    · have HF : Hid (fitsN x = false) := by
        have : fitsN x = false := by rw [← Bool.not_eq_true]; exact fun h => h1 (fitsN_iff.1 h).2
        exact this
      go_enter Try.func23, Try.ntmps23
      go_wp2_with fail
      go_ret
      exact ⟨by rw [HF.out]; rfl, rfl⟩
  · have HF : Hid (fitsN x = false) := by
      have : fitsN x = false := by rw [← Bool.not_eq_true]; exact fun h => h0 (fitsN_iff.1 h).1
      exact this
    go_enter Try.func23, Try.ntmps23
    go_wp2_with fail
    go_ret
    exact ⟨by rw [HF.out]; rfl, rfl⟩

set_option maxRecDepth 100000 in
set_option maxHeartbeats 400000 in
theorem right_any (x : Int) (n : Nd) (w : World) : Calls Try.prog 38 #[one5 x n] w fun e w' => e = .returned (.bool n.may) ∧ Fr w w' Nil := by
  have HB := Lib.hid (bk_at w 67 #[.int .i64 x, .int .i64 n.proc, .bool n.single, .int .i64 n.l, .int .i64 n.u] _ rfl)
  have HF := Lib.hid ((Fr.refl w Nil).alloc (.cells #[.int .i64 x, .int .i64 n.proc, .bool n.single, .int .i64 n.l, .int .i64 n.u] 67))
  have q1 := HB.out.cell 1
  have q3 := HB.out.cell 3
  have q4 := HB.out.cell 4
  simp only [List.getElem?_cons_zero, List.getElem?_cons_succ] at q1 q3 q4
  by_cases h0 : 0 ≤ n.proc
  · have HD : Hid (n.may = (fitsN n.l && fitsN n.u)) := by
      have : n.may = (fitsN n.l && fitsN n.u) := by unfold Nd.may; rw [decide_eq_true h0]; rfl
      exact this
    go_enter Try.func38, Try.ntmps38
    cases hl : fitsN n.l with
    | false =>
      have HL := Lib.hid hl
      clear hl
      go_wp2_with (go_at_call 23; refine (rfits_any _ _).mono ?_; rintro e w' ⟨rfl, rfl⟩; rw [HL.out])
      go_ret
      exact ⟨by rw [HD.out, HL.out]; rfl, HF.out⟩
    | true =>
      have HL := Lib.hid hl
      clear hl
      go_wp2_with (first
        | (go_at_call_of 23 (Value.int .i64 n.l); refine (rfits_any n.l _).mono ?_; rintro e w' ⟨rfl, rfl⟩; rw [HL.out])
        | (go_at_call_of 23 (Value.int .i64 n.u); refine (rfits_any n.u _).mono ?_; rintro e w' ⟨rfl, rfl⟩))
      go_ret
      exact ⟨by rw [HD.out, HL.out]; rfl, HF.out⟩
  · have HD : Hid (n.may = false) := by
      have : n.may = false := by unfold Nd.may; rw [decide_eq_false h0]; rfl
      exact this
    go_enter Try.func38, Try.ntmps38
    go_wp2_with fail
    go_ret
    exact ⟨by rw [HD.out]; rfl, HF.out⟩

set_option maxRecDepth 100000 in
set_option maxHeartbeats 400000 in
theorem rnew_any (c : CapD) (w : World) : Calls Try.prog 14 #[.int .i64 c.n, .int .i64 c.l, .int .i64 c.u] w fun e w' =>
    ∃ rb, e = .returned (.tuple #[.pointer (some ⟨rb, 0, none⟩), .bool c.may]) ∧ RGat w.heap.size w' rb c [] ∧ Fr w w' Nil := by
  have HF := Lib.hid ((Fr.refl w Nil).alloc (.cells #[.int .i64 c.n, .int .i64 c.l, .int .i64 c.u, .slice none 0 0] 63))
  have HR : Hid (RGat w.heap.size (w.alloc (.cells #[.int .i64 c.n, .int .i64 c.l, .int .i64 c.u, .slice none 0 0] 63)) w.heap.size c []) :=
    ⟨.slice none 0 0, bk_at w 63 _ _ rfl, World.ownsRow_nil _ _ _ _, (fun k hk => by cases hk), Nat.le_refl _⟩
  go_enter Try.func14, Try.ntmps14
  cases h0 : fitsN c.n with
  | false =>
    have HD : Hid (c.may = false) := by
      have : c.may = false := by unfold CapD.may; rw [h0]; rfl
      exact this
    have H0 := Lib.hid h0
    clear h0
    go_wp2_with (go_at_call 23; refine (rfits_any _ _).mono ?_; rintro e w' ⟨rfl, rfl⟩; rw [H0.out])
    go_ret2
    exact ⟨_, by rw [HD.out]; rfl, HR.out, HF.out⟩
  | true =>
    have H0 := Lib.hid h0
    cases h1 : fitsN c.l with
    | false =>
      have HD : Hid (c.may = false) := by
        have : c.may = false := by unfold CapD.may; rw [h0, h1]; rfl
        exact this
      have H1 := Lib.hid h1
      clear h0 h1
      go_wp2_with (first
        | (go_at_call_of 23 (Value.int .i64 c.n); refine (rfits_any c.n _).mono ?_; rintro e w' ⟨rfl, rfl⟩; rw [H0.out])
        | (go_at_call_of 23 (Value.int .i64 c.l); refine (rfits_any c.l _).mono ?_; rintro e w' ⟨rfl, rfl⟩; rw [H1.out]))
      go_ret2
      exact ⟨_, by rw [HD.out]; rfl, HR.out, HF.out⟩
    | true =>
      have HD : Hid (c.may = fitsN c.u) := by
        have : c.may = fitsN c.u := by unfold CapD.may; rw [h0, h1]; rfl
        exact this
      have H1 := Lib.hid h1
      clear h0 h1
      go_wp2_with (first
        | (go_at_call_of 23 (Value.int .i64 c.n); refine (rfits_any c.n _).mono ?_; rintro e w' ⟨rfl, rfl⟩; rw [H0.out])
        | (go_at_call_of 23 (Value.int .i64 c.l); refine (rfits_any c.l _).mono ?_; rintro e w' ⟨rfl, rfl⟩; rw [H1.out])
        | (go_at_call_of 23 (Value.int .i64 c.u); refine (rfits_any c.u _).mono ?_; rintro e w' ⟨rfl, rfl⟩))
      go_ret2
      exact ⟨_, by rw [HD.out]; rfl, HR.out, HF.out⟩

/-- The place of who, from i on. -/
def matFrom (x : Int) : Nat → List MR → Int
  | _, [] => -1
  | i, r :: L => if r.1 = x then (i : Int) else matFrom x (i + 1) L
def mat (M : List MR) (x : Int) : Int := matFrom x 0 M
theorem matFrom_spec (x : Int) : ∀ (i : Nat) (L : List MR), (matFrom x i L = -1 ∧ ∀ r ∈ L, r.1 ≠ x) ∨ ∃ (j : Nat) (r : MR), matFrom x i L = ((i + j : Nat) : Int) ∧ L[j]? = some r ∧ r.1 = x
  | i, [] => .inl ⟨rfl, by simp⟩
  | i, r :: L => by
    unfold matFrom
    by_cases h : r.1 = x
    · rw [if_pos h]
      exact .inr ⟨0, r, by simp, rfl, h⟩
    · rw [if_neg h]
      rcases matFrom_spec x (i + 1) L with ⟨h1, h2⟩ | ⟨j, r', h1, h2, h3⟩
      · exact .inl ⟨h1, fun y hy => (List.mem_cons.1 hy).elim (fun e => e ▸ h) (h2 y)⟩
      · exact .inr ⟨j + 1, r', by rw [h1]; congr 1; omega, by simpa using h2, h3⟩
theorem mat_spec (M : List MR) (x : Int) : (mat M x = -1 ∧ hasK M x = false) ∨ ∃ (j : Nat) (r : MR), mat M x = (j : Int) ∧ M[j]? = some r ∧ r.1 = x ∧ hasK M x = true := by
  rcases matFrom_spec x 0 M with ⟨h1, h2⟩ | ⟨j, r, h1, h2, h3⟩
  · refine .inl ⟨h1, ?_⟩
    rw [← Bool.not_eq_true, hasK_iff]
    rintro ⟨n, hn⟩
    exact h2 _ hn rfl
  · refine .inr ⟨j, r, by simpa [mat] using h1, h2, h3, hasK_iff.2 ⟨r.2, ?_⟩⟩
    rw [← h3]
    exact List.mem_of_getElem? h2
set_option maxRecDepth 100000 in
set_option maxHeartbeats 400000 in
theorem rgat_any {B rb : Nat} {c : CapD} {M : List MR} (x : Int) (w : World) (h : RGat B w rb c M) (hL : M.length ≤ 1000000) :
    Calls Try.prog 28 #[.pointer (some ⟨rb, 0, none⟩), .int .i64 x] w fun e w' => e = .returned (.int .i64 (mat M x)) ∧ w = w' := by
  obtain ⟨lv, h⟩ := h
  obtain ⟨a, cap, hlv⟩ := h.sl.shape
  have q3 := h.root.cell 3
  simp only [List.getElem?_cons_zero, List.getElem?_cons_succ] at q3
  rw [hlv] at q3
  have Hl := Lib.hid h
  rw [hlv] at Hl
  clear h hlv
  go_enter Try.func28, Try.ntmps28
  go_wp2_with fail
  go_loop [5] (fun vi => ∃ i : Nat, i ≤ M.length ∧ vi = .int .i64 i ∧ mat M x = matFrom x i (M.drop i)) (fun vi => M.length - (intOf vi).toNat)
  case atStart => exact ⟨0, by omega, rfl, rfl⟩
  case round =>
    obtain ⟨i, hi, rfl, hq⟩ := hrel
    have Hq := Lib.hid hq
    clear hq
    by_cases hlt : i < M.length
    · have hr := List.getElem?_eq_getElem hlt
      have hdr : M.drop i = M[i] :: M.drop (i + 1) := List.drop_eq_getElem_cons hlt
      generalize M[i] = r at hr hdr
      obtain ⟨b, off, cap2, hv, p0, p1, p2, p3, p4⟩ := Hl.out.cells hr
      simp only [Value.slice.injEq, true_and] at hv
      obtain ⟨rfl, rfl⟩ := hv
      have HS : Hid (mat M x = if r.1 = x then (i : Int) else matFrom x (i + 1) (M.drop (i + 1))) := by
        have := Hq.out
        rw [hdr] at this
        exact this
      have hlt2 : (i : Int) < (M.length : Int) := by omega
      clear hr hdr Hq p1 p2 p3 p4
      by_cases hm : r.1 = x
      · have HF : Hid (mat M x = (i : Int)) := by
          have h1 := HS.out
          rw [if_pos hm] at h1
          exact h1
        have f1 : (r.1 == x) = true := by rw [beq_iff_eq]; exact hm
        clear hm HS
        go_wp2_with fail
        go_ret
        exact ⟨by rw [HF.out]; rfl, rfl⟩
      · have HF : Hid (mat M x = matFrom x (i + 1) (M.drop (i + 1))) := by
          have h1 := HS.out
          rw [if_neg hm] at h1
          exact h1
        have f1 : (r.1 == x) = false := by rw [beq_eq_false_iff_ne]; exact hm
        clear hm HS
        go_wp2_with fail
        go_round
        case rel => exact ⟨i + 1, by omega, by go_num, HF.out⟩
        case measure => simp [intOf]; omega
    · have HF : Hid (mat M x = -1) := by
        have h1 := Hq.out
        rw [List.drop_of_length_le (by omega)] at h1
        exact h1
      go_wp2_with fail
      go_ret
      exact ⟨by rw [HF.out]; rfl, rfl⟩
end Go.Proofs.Ytplebgcgoigigaa
