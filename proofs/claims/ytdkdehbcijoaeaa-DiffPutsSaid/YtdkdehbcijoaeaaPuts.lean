/- DiffPuts: for all changes the law returns true (the program's puts are the document's), and the argument reads afterwards as before. No conditions. -/
import Derived.Test.YtdkdehbcijoaeaaShown
import Derived.Test.YtdkdehbcijoaeaaRows
import Derived.WalkKit
import Derived.ProofKit
import Derived.OpenShut
import Derived.WalkSpells
import Derived.Deep.LoopGhost
import Derived.BigQuiet
import Derived.Deep.QuietTactic
import Derived.Lib.Hide
import Derived.SizedLaws
import Derived.Deep.Slices
import Derived.Deep.Fields
open Go Go.ChangeShapes Go.WideShapes Go.ChangeAt Go.RowKit Go.Deep
namespace Go.Proofs.Ytdkdehbcijoaeaa
set_option linter.unusedVariables false

theorem block_of_add (a : Addr) (n : Nat) : (a.add n).block = a.block := by unfold Addr.add; split <;> rfl
structure Chg where
  key : ByteArray
  was : ByteArray
  now : ByteArray
  had : Bool
  has : Bool
/-- The changes lie there. -/
def CellsAt (w : World) (B : Nat) (A : Option Addr) (l : List Chg) : Prop :=
  ∀ i c, l[i]? = some c → ∃ a : Addr, A = some a ∧ a.block < B ∧ w.cell? (a.add (i * 5)) = some (.string c.key) ∧ w.cell? ⟨(a.add (i * 5)).block, (a.add (i * 5)).off + 1, none⟩ = some (.string c.was) ∧ w.cell? ⟨(a.add (i * 5)).block, (a.add (i * 5)).off + 2, none⟩ = some (.string c.now) ∧
    w.cell? ⟨(a.add (i * 5)).block, (a.add (i * 5)).off + 3, none⟩ = some (.bool c.had) ∧ w.cell? ⟨(a.add (i * 5)).block, (a.add (i * 5)).off + 4, none⟩ = some (.bool c.has)
def putOf (c : Chg) : List Value := [.string c.key, .string (if c.has then c.now else ByteArray.empty), .bool (!c.has)]
def flatP (l : List Chg) : List Value := l.flatMap putOf
theorem flatP_len (l : List Chg) : (flatP l).length = l.length * 3 := by
  induction l with
  | nil => rfl
  | cons c l ih =>
    have : (flatP (c :: l)).length = 3 + (flatP l).length := by simp [flatP, putOf]; omega
    rw [this, ih, List.length_cons]; omega
theorem flatP_snoc {l : List Chg} {k : Nat} {c : Chg} (h : l[k]? = some c) : flatP (l.take (k + 1)) = flatP (l.take k) ++ putOf c := by
  rw [List.take_add_one, h]
  simp [flatP]
theorem cell_three_new (w : World) (s : Nat) (hs : s = w.heap.size) (a b c : Value) (t : TypeId) : ∀ j u, [a, b, c][j]? = some u → (w.alloc (.cells #[a, b, c] t)).cell? ((⟨s, 0, none⟩ : Addr).add j) = some u := by
  subst hs
  intro j u hj
  match j, hj with
  | 0, hj => simp at hj; subst hj; simp [Addr.add]
  | 1, hj => simp at hj; subst hj; simp [Addr.add]
  | 2, hj => simp at hj; subst hj; simp [Addr.add]
  | j + 3, hj => simp at hj
def PutsP (w : World) (n : Nat) (l : List Chg) (e : Ending) (w' : World) : Prop := ∃ v, e = .returned v ∧ w'.ownsRow w.heap.size 66 3 v n (flatP l) ∧ Below w.heap.size w w'
theorem info66 : (Try.prog.info? 66).map (fun i => (i.zero, i.size, i.bytes)) = some (some (.agg #[.string ByteArray.empty, .string ByteArray.empty, .bool false]), 3, 40) := by kernel_rfl
theorem cells46 : Try.prog.cellsOf 46 = 5 := by kernel_rfl
theorem cells66 : Try.prog.cellsOf 66 = 3 := by kernel_rfl
set_option maxRecDepth 100000 in
set_option maxHeartbeats 1000000 in
theorem puts_any (A : Option Addr) (n c : Nat) (l : List Chg) (w : World) (hA : CellsAt w w.heap.size A l) (hn : l.length = n) (hb : n * 40 ≤ 140737488355328) :
    Calls Try.prog 9 #[.slice A n c] w (PutsP w n l) := by
  obtain ⟨i0, hi, hz0, hz1, hz2⟩ := info_parts info66
  have HA := Lib.hid hA
  clear hA
  subst hn
  go_enter Try.func9, Try.ntmps9
  go_wp2
  go_loopw [3, 9] (fun v i wr => ∃ k : Nat, k ≤ l.length ∧ i = .int .i64 k ∧ wr.ownsRow w.heap.size 66 3 v k (flatP (l.take k)) ∧ Below w.heap.size w wr) (fun _ i _ => l.length - (intOf i).toNat)
  case atStart => exact ⟨0, Nat.zero_le _, rfl, World.ownsRow_nil _ _ _ _, Below.refl _ _⟩
  case round =>
    obtain ⟨k, hk, rfl, hown, hbw⟩ := hrel
    by_cases hlt : k < l.length
    · obtain ⟨ch, hch⟩ : ∃ ch, l[k]? = some ch := ⟨l[k], List.getElem?_eq_getElem hlt⟩
      obtain ⟨a, rfl, hab, q0, q1, q2, q3, q4⟩ := HA.out k ch hch
      have HCH := Lib.hid hch
      clear hch
      obtain ⟨key, was, now, had, has⟩ := ch
      simp only at q0 q1 q2 q3 q4
      have hc0 := (hbw.cell (p := a.add (k * 5)) (by rw [block_of_add]; exact hab)).trans q0
      have hc1 := (hbw.cell (p := ⟨(a.add (k * 5)).block, (a.add (k * 5)).off + 1, none⟩) (by show (a.add (k * 5)).block < _; rw [block_of_add]; exact hab)).trans q1
      have hc2 := (hbw.cell (p := ⟨(a.add (k * 5)).block, (a.add (k * 5)).off + 2, none⟩) (by show (a.add (k * 5)).block < _; rw [block_of_add]; exact hab)).trans q2
      have hc3 := (hbw.cell (p := ⟨(a.add (k * 5)).block, (a.add (k * 5)).off + 3, none⟩) (by show (a.add (k * 5)).block < _; rw [block_of_add]; exact hab)).trans q3
      have hc4 := (hbw.cell (p := ⟨(a.add (k * 5)).block, (a.add (k * 5)).off + 4, none⟩) (by show (a.add (k * 5)).block < _; rw [block_of_add]; exact hab)).trans q4
      clear q0 q1 q2 q3 q4
      have hk0 : (0 : Int) ≤ (k : Int) := by omega
      have hk1 : (k : Int) < (l.length : Int) := by omega
      have hwz := hbw.size
      cases has
      all_goals
        go_wp2_with (first
          | (at_builtin; refine wpList_append_own _ rfl _ _ 34 rfl w.heap.size 66 i0 (.agg #[.string ByteArray.empty, .string ByteArray.empty, .bool false]) 3 40 Try.underlying34 hi hz0 hz1 hz2 rfl (by decide) _ _ _ rfl (((hown.alloc _).alloc _).alloc _) ⟨wr.heap.size + 1 + 1, 0, none⟩ 1 1 _ rfl (by rfl) (cell_three_new _ _ (by simp) _ _ _ _) (fun x hx => by simp at hx; rcases hx with rfl | rfl | rfl <;> rfl) (by unfold maxLen; omega) (by omega) (by simp; omega) ?_; intro v' w3 hown' hgrow3 hnil3
             have hbw3 : Below w.heap.size w w3 := Below.grown (((hbw.alloc hwz _).alloc (by simp; omega) _).alloc (by simp; omega) _) hgrow3 (by simp; omega) (fun j hj => (hown.lt _ hj).1)
             have X : Aside (w3.ownsRow w.heap.size 66 3 v' (k + 1) _ ∧ Below w.heap.size w w3) := ⟨hown', hbw3⟩
             clear hown' hgrow3 hnil3 hbw3))
        go_roundw
        case rel => exact ⟨k + 1, by omega, by go_num, by rw [flatP_snoc HCH.out]; exact X.out.1, X.out.2⟩
        case measure => simp [intOf]; omega
    · have hke : k = l.length := by omega
      subst hke
      have hk1 : ¬ ((l.length : Int) < (l.length : Int)) := by omega
      go_wp2
      go_ret
      exact ⟨_, rfl, by simpa using hown, hbw⟩

theorem cell_three_drew (w : World) (s : Nat) (hs : s = w.heap.size) (a b c : Value) (t : TypeId) : ∀ j u, [a, b, c][j]? = some u → (w.alloc (.cells #[a, b, c] t)).drew.cell? ((⟨s, 0, none⟩ : Addr).add j) = some u := cell_three_new w s hs a b c t
theorem below_drew {B : Nat} {w w' : World} (h : Below B w w') : Below B w w'.drew := h.trans ⟨rfl, rfl, rfl, Nat.le_refl _, fun _ _ => rfl⟩
set_option maxRecDepth 100000 in
set_option maxHeartbeats 1000000 in
theorem refputs_any (A : Option Addr) (n c : Nat) (l : List Chg) (w : World) (hA : CellsAt w w.heap.size A l) (hn : l.length = n) (hb : n * 40 ≤ 140737488355328) :
    Calls Try.prog 10 #[.slice A n c] w (PutsP w n l) := by
  obtain ⟨i0, hi, hz0, hz1, hz2⟩ := info_parts info66
  have HA := Lib.hid hA
  clear hA
  subst hn
  go_enter Try.func10, Try.ntmps10
  go_wp2
  go_loopw [3, 4] (fun v i wr => ∃ k : Nat, k ≤ l.length ∧ i = .int .i64 k ∧ wr.ownsRow w.heap.size 66 3 v k (flatP (l.take k)) ∧ Below w.heap.size w wr) (fun _ i _ => l.length - (intOf i).toNat)
  case atStart => exact ⟨0, Nat.zero_le _, rfl, World.ownsRow_nil _ _ _ _, Below.refl _ _⟩
  case round =>
    obtain ⟨k, hk, rfl, hown, hbw⟩ := hrel
    by_cases hlt : k < l.length
    · obtain ⟨ch, hch⟩ : ∃ ch, l[k]? = some ch := ⟨l[k], List.getElem?_eq_getElem hlt⟩
      obtain ⟨a, rfl, hab, q0, q1, q2, q3, q4⟩ := HA.out k ch hch
      have HCH := Lib.hid hch
      clear hch
      obtain ⟨key, was, now, had, has⟩ := ch
      simp only at q0 q1 q2 q3 q4
      have hc0 := (hbw.cell (p := a.add (k * 5)) (by rw [block_of_add]; exact hab)).trans q0
      have hc1 := (hbw.cell (p := ⟨(a.add (k * 5)).block, (a.add (k * 5)).off + 1, none⟩) (by show (a.add (k * 5)).block < _; rw [block_of_add]; exact hab)).trans q1
      have hc2 := (hbw.cell (p := ⟨(a.add (k * 5)).block, (a.add (k * 5)).off + 2, none⟩) (by show (a.add (k * 5)).block < _; rw [block_of_add]; exact hab)).trans q2
      have hc3 := (hbw.cell (p := ⟨(a.add (k * 5)).block, (a.add (k * 5)).off + 3, none⟩) (by show (a.add (k * 5)).block < _; rw [block_of_add]; exact hab)).trans q3
      have hc4 := (hbw.cell (p := ⟨(a.add (k * 5)).block, (a.add (k * 5)).off + 4, none⟩) (by show (a.add (k * 5)).block < _; rw [block_of_add]; exact hab)).trans q4
      clear q0 q1 q2 q3 q4
      have hk0 : (0 : Int) ≤ (k : Int) := by omega
      have hk1 : (k : Int) < (l.length : Int) := by omega
      have hwz := hbw.size
      have hbl : (a.add (k * 5)).block < wr.heap.size := by rw [block_of_add]; omega
      have hd0 : ∀ o, (wr.alloc o).cell? (a.add (k * 5)) = some (.string key) := fun o => (World.cell?_alloc_lt wr o _ hbl).trans hc0
      have hd2 : ∀ o, (wr.alloc o).cell? ⟨(a.add (k * 5)).block, (a.add (k * 5)).off + 2, none⟩ = some (.string now) := fun o => (World.cell?_alloc_lt wr o ⟨(a.add (k * 5)).block, (a.add (k * 5)).off + 2, none⟩ hbl).trans hc2
      have hd4 : ∀ o, (wr.alloc o).cell? ⟨(a.add (k * 5)).block, (a.add (k * 5)).off + 4, none⟩ = some (.bool has) := fun o => (World.cell?_alloc_lt wr o ⟨(a.add (k * 5)).block, (a.add (k * 5)).off + 4, none⟩ hbl).trans hc4
      clear hbl
      cases has
      case true =>
        go_wp2_with fail
        go_region
        go_wp2_with (first
          | (at_builtin; refine wpList_append_own _ rfl _ _ 34 rfl w.heap.size 66 i0 (.agg #[.string ByteArray.empty, .string ByteArray.empty, .bool false]) 3 40 Try.underlying34 hi hz0 hz1 hz2 rfl (by decide) _ _ _ rfl (((hown.alloc _).alloc _).drew) ⟨wr.heap.size + 1, 0, none⟩ 1 1 _ rfl (by rfl) (cell_three_drew _ _ (by simp) _ _ _ _) (fun x hx => by simp at hx; rcases hx with rfl | rfl | rfl <;> rfl) (by unfold maxLen; omega) (by omega) (by simp; omega) ?_; intro v' w3 hown' hgrow3 hnil3
             have hbw3 : Below w.heap.size w w3 := Below.grown (below_drew ((hbw.alloc hwz _).alloc (by simp; omega) _)) hgrow3 (by simp; omega) (fun j hj => (hown.lt _ hj).1)
             have X : Aside (w3.ownsRow w.heap.size 66 3 v' (k + 1) _ ∧ Below w.heap.size w w3) := ⟨hown', hbw3⟩
             clear hown' hgrow3 hnil3 hbw3))
        go_roundw
        case rel => exact ⟨k + 1, by omega, by go_num, by rw [flatP_snoc HCH.out]; exact X.out.1, X.out.2⟩
        case measure => simp [intOf]; omega
      case false =>
        go_wp2_with (first
          | (at_builtin; refine wpList_append_own _ rfl _ _ 34 rfl w.heap.size 66 i0 (.agg #[.string ByteArray.empty, .string ByteArray.empty, .bool false]) 3 40 Try.underlying34 hi hz0 hz1 hz2 rfl (by decide) _ _ _ rfl ((hown.alloc _).alloc _) ⟨wr.heap.size + 1, 0, none⟩ 1 1 _ rfl (by rfl) (cell_three_new _ _ (by simp) _ _ _ _) (fun x hx => by simp at hx; rcases hx with rfl | rfl | rfl <;> rfl) (by unfold maxLen; omega) (by omega) (by simp; omega) ?_; intro v' w3 hown' hgrow3 hnil3
             have hbw3 : Below w.heap.size w w3 := Below.grown ((hbw.alloc hwz _).alloc (by simp; omega) _) hgrow3 (by simp; omega) (fun j hj => (hown.lt _ hj).1)
             have X : Aside (w3.ownsRow w.heap.size 66 3 v' (k + 1) _ ∧ Below w.heap.size w w3) := ⟨hown', hbw3⟩
             clear hown' hgrow3 hnil3 hbw3))
        go_roundw
        case rel => exact ⟨k + 1, by omega, by go_num, by rw [flatP_snoc HCH.out]; exact X.out.1, X.out.2⟩
        case measure => simp [intOf]; omega
    · have hke : k = l.length := by omega
      subst hke
      have hk1 : ¬ ((l.length : Int) < (l.length : Int)) := by omega
      go_wp2
      go_ret
      exact ⟨_, rfl, by simpa using hown, hbw⟩

/-- Puts lie there. -/
def PutsAt (w : World) (A : Option Addr) (l : List Chg) : Prop :=
  ∀ i c, l[i]? = some c → ∃ a : Addr, A = some a ∧ w.cell? (a.add (i * 3)) = some (.string c.key) ∧ w.cell? ⟨(a.add (i * 3)).block, (a.add (i * 3)).off + 1, none⟩ = some (.string (if c.has then c.now else ByteArray.empty)) ∧
    w.cell? ⟨(a.add (i * 3)).block, (a.add (i * 3)).off + 2, none⟩ = some (.bool (!c.has))
theorem flatP_at {l : List Chg} {i : Nat} {c : Chg} (h : l[i]? = some c) (j : Nat) (hj : j < 3) : (flatP l)[i * 3 + j]? = (putOf c)[j]? := by
  induction l generalizing i with
  | nil => cases h
  | cons d l ih =>
    have hd : flatP (d :: l) = putOf d ++ flatP l := by simp [flatP]
    have hl : (putOf d).length = 3 := rfl
    rw [hd]
    cases i with
    | zero =>
      simp at h; subst h
      rw [List.getElem?_append_left (by omega)]
      simp
    | succ i =>
      rw [List.getElem?_append_right (by omega), hl, show (i + 1) * 3 + j - 3 = i * 3 + j by omega]
      exact ih (by simpa using h)
theorem putsAt_of_owns {w : World} {base : Nat} {v : Value} {l : List Chg} (h : w.ownsRow base 66 3 v l.length (flatP l)) : ∃ A c, v = .slice A l.length c ∧ l.length ≤ c ∧ PutsAt w A l := by
  have hh := h
  obtain ⟨h1, h2 | ⟨g, cap, cur, rfl, h3, h4, h5, h6, h7, h8⟩⟩ := h
  · obtain ⟨rfl, hn⟩ := h2
    have : l = [] := List.length_eq_zero_iff.1 hn
    subst this
    exact ⟨none, 0, rfl, Nat.le_refl _, fun i c hc => by cases hc⟩
  · refine ⟨_, cap, rfl, h5, fun i c hc => ⟨_, rfl, ?_⟩⟩
    have hi : i < l.length := (List.getElem?_eq_some_iff.1 hc).1
    have hcell := hh.cellAt
    have hadd : (⟨g, 0, none⟩ : Addr).add (i * 3) = ⟨g, i * 3, none⟩ := by
      unfold Addr.add
      split
      · rename_i h0; rw [h0]
      · simp
    rw [hadd]
    refine ⟨?_, ?_, ?_⟩
    · rw [hcell (i * 3) (by omega)]; exact flatP_at hc 0 (by omega)
    · show w.cell? ⟨g, i * 3 + 1, none⟩ = _
      rw [hcell (i * 3 + 1) (by omega)]; exact flatP_at hc 1 (by omega)
    · show w.cell? ⟨g, i * 3 + 2, none⟩ = _
      rw [hcell (i * 3 + 2) (by omega)]; exact flatP_at hc 2 (by omega)
set_option maxRecDepth 100000 in
set_option maxHeartbeats 1000000 in
theorem sameputs_any (A A' : Option Addr) (n c c' : Nat) (l : List Chg) (w : World) (hA : PutsAt w A l) (hA' : PutsAt w A' l) (hn : l.length = n) (hb : n * 40 ≤ 140737488355328) :
    Calls Try.prog 8 #[.slice A n c, .slice A' n c'] w fun e w' => e = .returned (.bool true) ∧ Below w.heap.size w w' := by
  have HA := Lib.hid hA
  have HA' := Lib.hid hA'
  clear hA hA'
  subst hn
  go_enter Try.func8, Try.ntmps8
  go_wp2
  go_loopw [5] (fun i wr => ∃ k m : Nat, k ≤ l.length ∧ i = .int .i64 k ∧ wr = w.drewN m) (fun i _ => l.length - (intOf i).toNat)
  case atStart => exact ⟨0, 0, Nat.zero_le _, rfl, rfl⟩
  case round =>
    obtain ⟨k, m, hk, rfl, rfl⟩ := hrel
    by_cases hlt : k < l.length
    · obtain ⟨ch, hch⟩ : ∃ ch, l[k]? = some ch := ⟨l[k], List.getElem?_eq_getElem hlt⟩
      obtain ⟨a, rfl, q0, q1, q2⟩ := HA.out k ch hch
      obtain ⟨a', rfl, r0, r1, r2⟩ := HA'.out k ch hch
      clear hch
      have hk0 : (0 : Int) ≤ (k : Int) := by omega
      have hk1 : (k : Int) < (l.length : Int) := by omega
      go_wp2
      go_region
      go_wp2
      go_roundw
      case rel => exact ⟨k + 1, m + 1, by omega, by go_num, rfl⟩
      case measure => simp [intOf]; omega
    · have hke : k = l.length := by omega
      subst hke
      have hk1 : ¬ ((l.length : Int) < (l.length : Int)) := by omega
      go_wp2
      go_ret
      exact ⟨rfl, ⟨rfl, rfl, rfl, Nat.le_refl _, fun _ _ => rfl⟩⟩
theorem CellsAt.below {w w' : World} {B B' : Nat} {A : Option Addr} {l : List Chg} (h : CellsAt w B A l) (hb : Below B w w') (hB : B ≤ B') : CellsAt w' B' A l := fun i c hc => by
  obtain ⟨a, rfl, hab, q0, q1, q2, q3, q4⟩ := h i c hc
  have hbl : (a.add (i * 5)).block < B := by rw [block_of_add]; exact hab
  exact ⟨a, rfl, by omega, (hb.cell hbl).trans q0, (hb.cell (p := ⟨(a.add (i * 5)).block, _, none⟩) hbl).trans q1, (hb.cell (p := ⟨(a.add (i * 5)).block, _, none⟩) hbl).trans q2, (hb.cell (p := ⟨(a.add (i * 5)).block, _, none⟩) hbl).trans q3, (hb.cell (p := ⟨(a.add (i * 5)).block, _, none⟩) hbl).trans q4⟩
theorem PutsAt.below {w w' : World} {base : Nat} {v : Value} {A : Option Addr} {l : List Chg} {c : Nat} (h : w.ownsRow base 66 3 v l.length (flatP l)) (hb : Below w.heap.size w w') : w'.ownsRow base 66 3 v l.length (flatP l) := by
  obtain ⟨h1, h2 | ⟨g, cap, cur, rfl, h3, h4, h5⟩⟩ := h
  · exact ⟨h1, .inl h2⟩
  · have hg : g < w.heap.size := (Array.getElem?_eq_some_iff.1 h4).1
    exact ⟨h1, .inr ⟨g, cap, cur, rfl, h3, (hb.block g hg).trans h4, h5⟩⟩
set_option maxRecDepth 100000 in
set_option maxHeartbeats 1000000 in
theorem diffputs_any (A : Option Addr) (n c : Nat) (l : List Chg) (w : World) (hA : CellsAt w w.heap.size A l) (hn : l.length = n) (hb : n * 40 ≤ 140737488355328) :
    Calls Try.prog 4 #[.slice A n c] w fun e w' => e = .returned (.bool true) ∧ Below w.heap.size w w' := by
  have HA := Lib.hid hA
  clear hA
  go_enter Try.func4, Try.ntmps4
  go_wp2_with fail
  refine (Try.shown _).mono ?_
  rintro e w1 ⟨rfl, hb1⟩
  have HA1 := Lib.hid (HA.out.below hb1 hb1.size)
  go_wp2_with fail
  refine (puts_any A n c l _ HA1.out hn hb).mono ?_
  rintro e w2 ⟨v2, rfl, ho2, hb2⟩
  have HO2 := Lib.hid ho2
  clear ho2
  have HA2 := Lib.hid (HA1.out.below hb2 hb2.size)
  go_wp2_with fail
  refine (refputs_any A n c l _ HA2.out hn hb).mono ?_
  rintro e w3 ⟨v3, rfl, ho3, hb3⟩
  have HO3 := Lib.hid ho3
  clear ho3
  subst hn
  obtain ⟨A2, c2, rfl, hc2, hp2⟩ := putsAt_of_owns (PutsAt.below (A := A) (c := c) HO2.out hb3)
  obtain ⟨A3, c3, rfl, hc3, hp3⟩ := putsAt_of_owns HO3.out
  have HP2 := Lib.hid hp2
  have HP3 := Lib.hid hp3
  clear hp2 hp3
  go_wp2_with fail
  refine (sameputs_any A2 A3 l.length c2 c3 l _ HP2.out HP3.out rfl hb).mono ?_
  rintro e w4 ⟨rfl, hb4⟩
  go_wp2_with fail
  all_goals go_ret
  all_goals exact ⟨rfl, ((hb1.trans (hb2.mono hb1.size)).trans (hb3.mono (Nat.le_trans hb1.size hb2.size))).trans (hb4.mono (Nat.le_trans hb1.size (Nat.le_trans hb2.size hb3.size)))⟩

section
variable {H : Type} {enc : TypeId × Value → H} {P : Program} {w : World} {base : Nat} {spare : Nat → Bool} {held : Bool}
theorem open_slice_fields {t e : TypeId} {fs : Array Field} {fuel : Nat} {cs : List Value} {x : DataW H × List MemPlace} (ht : P.underlying t = some (.slice e)) (he : P.underlying e = some (.struct fs))
    (hone : oneCellFields P fs = true) (hC : P.cellsOf e = fs.size) (h : DataW.trod enc P w base spare held fuel t cs = some x) :
    (cs = [.slice none 0 0] ∧ x = (.nil, [])) ∨
    ∃ (a : Addr) (len cap m : Nat) (D : Nat → DataW H) (Pl : Nat → List MemPlace), cs = [.slice (some a) len cap] ∧ base ≤ a.block ∧ len ≤ cap ∧ cap ≤ maxLen ∧ m = (if spare a.block then cap else len) ∧
      x = (.slice ((List.range len).map D) ((List.range (m - len)).map fun j => D (len + j)), MemPlace.row a (m * fs.size) ++ (List.range m).flatMap Pl) ∧
      ∀ i, i < m → ∃ (ys : List (DataW H × List MemPlace)) (n : Nat), D i = .agg (ys.map (·.1)) ∧ Pl i = ys.flatMap (·.2) ∧ ys.length = fs.size ∧
        ∀ (j : Nat) (f : Field), fs[j]? = some f → ∃ (v : Value) (y : DataW H × List MemPlace), w.cell? (a.add (i * fs.size + j)) = some v ∧ ys[j]? = some y ∧ DataW.trod enc P w base spare held n f.type [v] = some y := by
  rcases open_slice ht h with h0 | ⟨a, len, cap, m, n, D, Pl, hcs, hb, hl, hm, hmm, hx, hi⟩
  · exact .inl h0
  · refine .inr ⟨a, len, cap, m, D, Pl, hcs, hb, hl, hm, hmm, by rw [hC] at hx; exact hx, fun i him => ?_⟩
    obtain ⟨cs', hc, ht'⟩ := hi i him
    rw [hC] at hc
    obtain ⟨ys, n', hn', hy, hlen, hyl, hf⟩ := DataW.trod_struct he ht'
    obtain ⟨_, hcl, hat⟩ := World.cells?_some hc
    simp only [Prod.mk.injEq] at hy
    refine ⟨ys, n', hy.1, hy.2, hyl, fun j f hj => ?_⟩
    obtain ⟨ho, hk⟩ := hone_of hone j f hj
    have hjl : j < fs.size := (Array.getElem?_eq_some_iff.1 hj).1
    have hcell := hat j hjl
    have hv : cs'[j]? = some (cs'[j]'(by omega)) := List.getElem?_eq_getElem (by omega)
    have h1 := hf j f hj
    rw [ho, hk] at h1
    have hone' : (cs'.drop j).take 1 = [cs'[j]'(by omega)] := by
      rw [List.drop_eq_getElem_cons (by omega)]
      rfl
    rw [hone'] at h1
    have hys : ys[j]? = some (ys[j]'(by omega)) := List.getElem?_eq_getElem (by omega)
    refine ⟨_, _, ?_, hys, h1.trans hys⟩
    rw [← Go.Deep.add_add, hcell, hv]
end
section
variable {H : Type} {enc : TypeId × Value → H} {P : Program}
/-- The row's last step where of the world behind the call it is known that nothing has turned below. -/
theorem post_below {f : Func} {s : ChangeSpec} {apart fresh handsOn again : Bool} {W W' : World} {args : Array Value} {v : Value} {ds gs : List (DataW H)} {before pa pv : List MemPlace}
    (hW : DataW.Whole enc P f.params.toList s.vars apart W args.toList ds gs before)
    (hres : ∀ (b : Nat) (sp : Nat → Bool) (hd : Bool), DataW.TrodAll enc P W' b sp hd f.resultTypes.toList (v.resultList f.resultTypes.size) (s.fn H (ds ++ gs)).results [])
    (hargs : ∀ sp : Nat → Bool, (∀ p ∈ before, sp p.block = true) → DataW.TrodAll enc P W' 0 sp true f.params.toList args.toList (s.fn H (ds ++ gs)).args pa)
    (hvars : ∀ sp : Nat → Bool, (∀ p ∈ before, sp p.block = true) → DataW.TrodVars enc P W' sp s.vars (s.fn H (ds ++ gs)).vars pv)
    (hps : before = pa ++ pv) (hb : Below W.heap.size W W')
    (hok : ∀ (j : Nat) (t : TypeId) (r : Value), f.resultTypes[j]? = some t → (v.resultList f.resultTypes.size)[j]? = some r → Value.okWide P W' .any 0 t r) :
    s.post enc P f apart fresh handsOn again W args v W' := by
  have hlt : ∀ p ∈ before, p.block < W.heap.size := fun p hp => hW.lt p hp
  have hold : ∀ p ∈ before, (fun b => decide (b < W.heap.size)) p.block = true := fun p hp => by simpa using hlt p hp
  refine ⟨ds, gs, before, [], pa, pv, hW, hres _ _ _, hargs _ hold, hvars _ hold, World.keptBut_mono (fun p hp => ⟨hp, ?_⟩) (hb.frame (· ∈ before)), fun _ => ?_⟩
  · rw [hps, List.mem_append] at hp
    exact Or.inr hp
  · obtain ⟨_, _, _, _, _, hz, hn⟩ := hW
    refine ⟨hok, _, _, ([] ++ pa) ++ pv, ⟨[] ++ pa, pv, trodAll_append (hargs _ (fun _ _ => rfl)) (hres _ _ _), hvars _ (fun _ _ => rfl), rfl, ?_, ?_⟩, ?_⟩
    · intro b off hp
      have hin : MemPlace.cell b off ∈ before := by rw [hps]; simpa using hp
      rw [hb.frozen (hlt _ hin)]
      exact hz b off hin
    · intro ha
      have := hn ha
      rw [hps] at this
      simpa using this
    · intro p hp _
      rw [hps]
      simpa using hp
/-- An argument reads behind the call as it read before. -/
theorem trod_sp {t : TypeId} (hl : laidOutB P = true) (hr : P.readableRec t = true) (hrow : t < P.types.size) {W W' : World} {v : Value} {d : DataW H} {ps : List MemPlace} {sp : Nat → Bool}
    (h : DataW.Trod enc P W 0 (fun _ => true) true t v d ps) (hb : Below W.heap.size W W') (hlt : ∀ x ∈ ps, x.block < W.heap.size) (hsp : ∀ x ∈ ps, sp x.block = true) : DataW.Trod enc P W' 0 sp true t v d ps :=
  WideElems.Trod_stays hl hr hrow h (fun x hx => hb.same (hlt x hx)) hsp
end
theorem own : ownKnob Try.prog.godebug = none := by kernel_rfl
theorem laid : laidOutB Try.prog = true := by kernel_rfl


theorem cells46' : Try.prog.cellsOf 46 = 5 := by kernel_rfl
theorem bytes46 : Try.prog.bytesOf 46 = 56 := by kernel_rfl
theorem addr_add_add (a : Addr) (i j : Nat) (hj : 0 < j) : a.add (i + j) = ⟨(a.add i).block, (a.add i).off + j, none⟩ := by
  unfold Addr.add
  by_cases hi : i = 0
  · subst hi
    rw [if_neg (by omega), if_pos rfl]
    simp
  · rw [if_neg (by omega), if_neg hi]
    simp [Nat.add_assoc]
theorem list_of_fun {α : Type} (n : Nat) (p : Nat → α → Prop) (h : ∀ i, i < n → ∃ a, p i a) : ∃ l : List α, l.length = n ∧ ∀ i a, l[i]? = some a → p i a := by
  induction n with
  | zero => exact ⟨[], rfl, fun i a hi => by cases hi⟩
  | succ n ih =>
    obtain ⟨l, h1, h2⟩ := ih fun i hi => h i (by omega)
    obtain ⟨a, ha⟩ := h n (by omega)
    refine ⟨l ++ [a], by simp [h1], fun i b hb => ?_⟩
    rcases Nat.lt_or_ge i l.length with hlt | hge
    · rw [List.getElem?_append_left hlt] at hb; exact h2 i b hb
    · rw [List.getElem?_append_right hge] at hb
      have : i - l.length = 0 := by
        rcases Nat.eq_zero_or_pos (i - l.length) with h0 | h0
        · exact h0
        · rw [List.getElem?_eq_none (by simp; omega)] at hb; cases hb
      rw [this] at hb
      simp at hb
      subst hb
      have : i = n := by omega
      subst this
      exact ha
theorem open_changes {H : Type} {enc : TypeId × Value → H} {W : World} {a0 : Option Addr} {len cap : Nat} {d : DataW H} {ps : List MemPlace} (h : DataW.Trod enc Try.prog W 0 (fun _ => true) true 25 (.slice a0 len cap) d ps)
    {ts : List TypeId} {ds : List (DataW H)} (hsz : (DataW.weightsEach Try.prog ts ds).all (· ≤ reachBytes) = true) (ht : ts[0]? = some 25) (hd : ds[0]? = some d) :
    len * 40 ≤ 140737488355328 ∧ ∃ l, l.length = len ∧ CellsAt W W.heap.size a0 l := by
  obtain ⟨fuel, hf⟩ := h
  rcases open_slice_fields Try.underlying25 Try.underlying46 (by kernel_rfl) (by kernel_rfl) hf with ⟨hcs, _⟩ | ⟨a, n, c, m, D, Pl, hcs, _, hl, _, hm, hx, hi⟩
  · simp [Value.cells] at hcs
    obtain ⟨rfl, rfl, rfl⟩ := hcs
    exact ⟨by omega, [], rfl, fun i c hc => by cases hc⟩
  · simp [Value.cells] at hcs
    obtain ⟨rfl, rfl, rfl⟩ := hcs
    simp only [if_true] at hm
    subst hm
    obtain ⟨hx, _⟩ := Prod.mk.inj hx
    subst hx
    have hz := sized_slice hsz ht hd Try.underlying25
    rw [bytes46] at hz
    simp only [List.length_map, List.length_range] at hz
    have hrb := reachBytes_lt
    refine ⟨by omega, ?_⟩
    obtain ⟨l, h1, h2⟩ := list_of_fun len (fun i (c : Chg) => W.cell? (a.add (i * 5)) = some (.string c.key) ∧ W.cell? ⟨(a.add (i * 5)).block, (a.add (i * 5)).off + 1, none⟩ = some (.string c.was) ∧ W.cell? ⟨(a.add (i * 5)).block, (a.add (i * 5)).off + 2, none⟩ = some (.string c.now) ∧
        W.cell? ⟨(a.add (i * 5)).block, (a.add (i * 5)).off + 3, none⟩ = some (.bool c.had) ∧ W.cell? ⟨(a.add (i * 5)).block, (a.add (i * 5)).off + 4, none⟩ = some (.bool c.has)) (fun i hlt => by
      obtain ⟨ys, n', _, _, _, hfield⟩ := hi i (by omega)
      obtain ⟨v0, y0, c0, _, t0⟩ := hfield 0 _ rfl
      obtain ⟨v1, y1, c1, _, t1⟩ := hfield 1 _ rfl
      obtain ⟨v2, y2, c2, _, t2⟩ := hfield 2 _ rfl
      obtain ⟨v3, y3, c3, _, t3⟩ := hfield 3 _ rfl
      obtain ⟨v4, y4, c4, _, t4⟩ := hfield 4 _ rfl
      obtain ⟨s0, e0, _⟩ := DataW.trod_string Try.underlying9 t0
      obtain ⟨s1, e1, _⟩ := DataW.trod_string Try.underlying9 t1
      obtain ⟨s2, e2, _⟩ := DataW.trod_string Try.underlying9 t2
      obtain ⟨b3, e3, _⟩ := DataW.trod_bool Try.underlying4 t3
      obtain ⟨b4, e4, _⟩ := DataW.trod_bool Try.underlying4 t4
      injection e0 with e0; injection e1 with e1; injection e2 with e2; injection e3 with e3; injection e4 with e4
      subst e0 e1 e2 e3 e4
      refine ⟨⟨s0, s1, s2, b3, b4⟩, c0, ?_, ?_, ?_, ?_⟩
      · rw [← addr_add_add a (i * 5) 1 (by omega)]; exact c1
      · rw [← addr_add_add a (i * 5) 2 (by omega)]; exact c2
      · rw [← addr_add_add a (i * 5) 3 (by omega)]; exact c3
      · rw [← addr_add_add a (i * 5) 4 (by omega)]; exact c4)
    refine ⟨l, h1, fun i c hc => ?_⟩
    obtain ⟨q0, q1, q2, q3, q4⟩ := h2 i c hc
    have hb := World.block_lt_of_cell? W _ q0
    rw [block_of_add] at hb
    exact ⟨a, rfl, hb, q0, q1, q2, q3, q4⟩
set_option maxRecDepth 100000 in
theorem puts_contract (H : Type) (enc : TypeId × Value → H) (W : World) (base : Nat) (args : Array Value) (ds gs : List (DataW H)) (before : List MemPlace)
    (hval : ∀ (j : Nat) t v, Try.f4.params[j]? = some t → args[j]? = some v → Value.okWide Try.prog W .any base t v)
    (hW : DataW.Whole enc Try.prog Try.f4.params.toList Rows.diffPutsSpec.vars false W args.toList ds gs before)
    (hsz : (DataW.weightsEach Try.prog (Try.f4.params.toList ++ Rows.diffPutsSpec.plain.varTypes Try.prog) (ds ++ gs)).all (· ≤ reachBytes) = true) :
    Calls Try.prog 4 args W fun e W' => ∃ v, e = .returned v ∧ Rows.diffPutsSpec.post enc Try.prog Try.f4 false true false false W args v W' := by
  have hW' := hW
  obtain ⟨p, q, hA0, hV, rfl, hfz, hnd⟩ := hW
  have hA : DataW.TrodAll enc Try.prog W 0 (fun _ => true) true Try.f4.params.toList args.toList ds p := hA0
  rw [Try.params4] at hA hval hsz
  obtain ⟨v0, vs0, d0, ds0, p0, q0, hargs, rfl, rfl, h0, r0⟩ := trodAll_cons hA
  obtain ⟨rfl, rfl, rfl⟩ := trodAll_nil r0
  obtain rfl : args = #[v0] := by cases args; simp_all
  obtain ⟨rfl, rfl⟩ := trodVars_none hV
  obtain ⟨a0, len, cap, rfl⟩ := okWide_slice Try.underlying25 (hval 0 25 v0 rfl rfl)
  clear hA0
  simp only [List.append_nil] at hW'
  have hlt : ∀ x ∈ p0, x.block < W.heap.size := fun x hx => by simpa using hW'.lt x (by simpa using hx)
  obtain ⟨hb40, l, hl, hcells⟩ := open_changes h0 hsz rfl rfl
  refine (diffputs_any a0 len cap l W hcells hl hb40).mono fun e W' ⟨he, hb⟩ => ?_
  subst he
  refine ⟨_, rfl, post_below (pa := p0 ++ []) (pv := []) hW' (fun _ _ _ => trodAll_cons_mk (shut_bool Try.underlying4 _) trodAll_mk0) (fun sp hsp => ?_) (fun _ _ => rfl) (by simp) hb (ok_one (by kernel_rfl) rfl (okWide_bool_mk Try.underlying4 _))⟩
  exact trodAll_cons_mk (trod_sp laid (by kernel_rfl) (of_decide_eq_true (by kernel_rfl)) h0 hb hlt (fun x hx => hsp x (by simpa using hx))) trodAll_mk0
set_option maxRecDepth 100000 in
theorem puts_lifted (os : Os) (started : os.Started) (H : Type) (enc : TypeId × Value → H) :
    ReturnsInHanded {} Try.checked os 4 .any (Rows.diffPutsSpec.pre6 enc Try.prog Try.f4 Rows.diffPutsRow.domain false) (Rows.diffPutsSpec.post enc Try.prog Try.f4 false true false false) := by
  refine returnsInHanded_of_change_sized (C := Try.checked) (s := Rows.diffPutsSpec) own started (by kernel_rfl) Try.func4
    (ChangeSpec.witness6 (enc := enc) (C := Try.checked) (s := Rows.diffPutsSpec) false ⟨#[], #[.slice none 0 0], []⟩ 8 (by kernel_rfl) (by kernel_rfl) (by kernel_rfl) (by kernel_rfl)) ?_
  intro W base args ds gs before hval hW _ hsz _
  exact puts_contract H enc W base args ds gs before hval hW hsz
/-- DiffPuts: whatever the changes: true, and the argument reads as it did. -/
theorem diffPuts_holds : Rows.DiffPutsSaid :=
  OpenClaim.holds_of_wide 4 Try.f4 rfl rfl rfl rfl rfl rfl rfl ⟨rfl, rfl, rfl, rfl, rfl⟩ rfl rfl rfl rfl rfl (by kernel_rfl) Try.func4 (by kernel_rfl)
    (of_decide_eq_true (by kernel_rfl)) (by unfold Func.isWrapper; first | (rw [if_pos (by decide +kernel)]; kernel_rfl) | (rw [if_neg (by decide +kernel)]; exact ⟨rfl, rfl⟩))
    (fun os started H enc _ => puts_lifted os started H enc)
end Go.Proofs.Ytdkdehbcijoaeaa
