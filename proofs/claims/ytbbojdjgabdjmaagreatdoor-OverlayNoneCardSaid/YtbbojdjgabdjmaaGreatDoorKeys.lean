/- A laid variable's cells, as the evaluator asks them; texts and their bytes. -/
import Derived.Test.YtbbojdjgabdjmaaGreatDoorEngLaid
import Derived.Lib.LaidTab
namespace Go.Eng
open Go Go.RowKit
theorem keysAt_of {w : World} {g : Nat} {ks : List Nat} (h0 : 0 < ks.length) (h : ∀ (i n : Nat), ks[i]? = some n → w.cell? ⟨g, i, none⟩ = some (Value.int .u32 (Int.ofNat n))) : ∃ e, KeysAt w g ks e := by
  have hi : ∀ (i n : Nat), ks[i]? = some n → ∃ arr e lo hi, w.heap[g]? = some (.cells arr e (lo, hi)) ∧ arr[i]? = some (Value.int .u32 (Int.ofNat n)) := fun i n hn => by
    have := h i n hn
    unfold World.cell? at this
    cases hx : w.heap[g]? with
    | none => simp [hx] at this
    | some o =>
      cases o with
      | cells arr e fz =>
        obtain ⟨lo, hi⟩ := fz
        refine ⟨arr, e, lo, hi, rfl, ?_⟩
        simpa [hx] using this
      | _ => simp [hx] at this
  obtain ⟨arr, e, lo, hi', h1, _⟩ := hi 0 ks[0] (List.getElem?_eq_getElem h0)
  have hall : ∀ (i n : Nat), ks[i]? = some n → arr[i]? = some (Value.int .u32 (Int.ofNat n)) := fun i n hn => by
    obtain ⟨arr', e', lo', hi2, h3, h4⟩ := hi i n hn
    rw [h1] at h3
    injection h3 with h3
    injection h3 with h3
    rw [h3]; exact h4
  refine ⟨e, arr, lo, hi', h1, ?_, hall⟩
  have hl := hall (ks.length - 1) ks[ks.length - 1] (List.getElem?_eq_getElem (by omega))
  have := (Array.getElem?_eq_some_iff.1 hl).1
  omega
/-- A text's bytes, as the evaluator has them. -/
def natsOf (s : ByteArray) : List Nat := s.data.toList.map UInt8.toNat
theorem concStr_nats (s : ByteArray) : concStr (natsOf s) = s := by
  obtain ⟨⟨l⟩⟩ := s
  unfold concStr natsOf
  congr 2
  rw [List.map_map]
  conv => rhs; rw [← List.map_id l]
  apply List.map_congr_left
  intro b _
  simp
theorem nats_lt (s : ByteArray) : ∀ b ∈ natsOf s, b < 256 := fun b hb => by
  obtain ⟨x, _, rfl⟩ := List.mem_map.1 hb
  exact x.toNat_lt
end Go.Eng
