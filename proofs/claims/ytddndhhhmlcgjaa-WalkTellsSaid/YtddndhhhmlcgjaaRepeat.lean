/- slices.Repeat of one int. -/
import Derived.Test.YtddndhhhmlcgjaaA
import Derived.Test.YtddndhhhmlcgjaaMem
import Derived.Test.YtddndhhhmlcgjaaShelf
import Derived.Laws.CopyOwn
namespace Go.Proofs.Ytddndhhhmlcgjaa
open Go Go.RowKit

theorem int_info : (Try.prog.info? 3).map (fun i => (i.zero, i.size, i.bytes)) = some (some (.int .i64 0), 1, 8) := by kernel_rfl
theorem int_size : (Try.prog.info? 3).map (·.size) = some 1 := by kernel_rfl

theorem mul_one_any (n : Nat) (hn : n ≤ 100000) (w : World) :
    Calls Try.prog 46 #[.int .u64 1, .int .u64 n] w fun e w' => e = .returned (.tuple #[.int .u64 0, .int .u64 n]) ∧ w = w' := by
  refine (Try.bits_Mul 1 n (by omega) (by omega) w).mono ?_
  rintro e w' ⟨rfl, rfl⟩
  refine ⟨?_, rfl⟩
  rw [Nat.one_mul, Nat.div_eq_of_lt (by omega), Nat.mod_eq_of_lt (by omega)]
  rfl

/-- What is answered is a new slice of ints, its room as long as it. -/
def RetRow (w : World) (xs : List Int) (e : Ending) (w' : World) : Prop :=
  ∃ g, e = .returned (.slice (some ⟨g, 0, none⟩) xs.length xs.length) ∧ w.heap.size ≤ g ∧ Row w' g 3 1 xs.length (xs.map (Value.int .i64)) ∧ Below w.heap.size w w'

set_option maxHeartbeats 1000000 in
theorem repeat_walk (b c : Nat) (x : Int) (n : Nat) (w : World) (h0 : w.cell? ⟨b, 0, none⟩ = some (.int .i64 x)) (hn : n ≤ 100000) :
    Calls Try.prog 41 #[.slice (some ⟨b, 0, none⟩) 1 c, .int .i64 n] w (RetRow w (List.replicate n x)) := by
  have hmk := run_make_row' (P := Try.prog) 27 3 (.int .i64 0) 8 Try.underlying27 int_info rfl .i64 .i64 n (by omega) (by omega)
  have hn0 : (0 : Int) ≤ (n : Int) := by omega
  have hmin : Nat.min 1 n ≤ n ∧ (0 < n → Nat.min 1 n = 1) := by constructor <;> (simp only [Nat.min_def]; split <;> omega)
  obtain ⟨cs, hcs⟩ : ∃ cs, cs = List.replicate (Nat.min 1 n) (Value.int .i64 x) := ⟨_, rfl⟩
  have hcl : cs.length = Nat.min 1 n := by rw [hcs]; simp
  have hcx : ∀ j v, cs[j]? = some v → j = 0 ∧ v = Value.int .i64 x := by
    intro j v h
    rw [hcs] at h
    obtain ⟨h1, h2⟩ := List.getElem?_eq_some_iff.1 h
    simp at h1 h2
    refine ⟨?_, h2.symm⟩
    have := h1; omega
  have hlb := World.block_lt_of_cell? w _ h0
  have hcl0 : cs.length ≤ n := by omega
  have Hcl := Lib.hid hcl; have Hcs := Lib.hid hcs; have Hcx := Lib.hid hcx; have Hmin := Lib.hid hmin
  clear hcl hcs hcx hmin
  go_enter Try.func41, Try.ntmps41
  go_wp2_with (first
    | (go_at_call 46; refine (mul_one_any n hn _).mono ?_; rintro e w' ⟨rfl, rfl⟩)
    | (with_reducible refine wpList_copy_row rfl (.tmp 31) (.tmp 32) 27 27 rfl 3 Try.underlying27 int_size _ _ _ _ _ _ rfl rfl w.heap.size 0 n (List.replicate n (.int .i64 0)) ?hr cs ?hn ?hp ?hf ?h1 ?_))
  case hr => exact row_made _ _ _ _ (by unfold maxLen; omega)
  case hn => exact Hcl.out
  case hf => have := Hcl.out; have := Hmin.out; simp; omega
  case h1 =>
    intro v hv
    obtain ⟨j, hj, hv⟩ := List.getElem_of_mem hv
    rw [(Hcx.out j v (by rw [← hv]; simp)).2]; rfl
  case hp =>
    intro hpos j v hj
    obtain ⟨rfl, rfl⟩ := Hcx.out j v hj
    exact h0
  intro w1 hrow hgr
  have hvl1 : (spliced (List.replicate n (Value.int .i64 0)) 0 cs).length = n := by rw [spliced_length (by simp; omega)]; simp
  have hvx1 : ∀ j, j < cs.length → (spliced (List.replicate n (Value.int .i64 0)) 0 cs)[j]? = some (.int .i64 x) := by
    intro j hj
    have := Hcl.out
    simp only [spliced, List.take_zero, List.nil_append]
    rw [List.getElem?_append_left hj, Hcs.out, List.getElem?_replicate, if_pos (by rw [← Hcl.out]; exact hj)]
  have Hvl1 := Lib.hid hvl1; have Hvx1 := Lib.hid hvx1; clear hvl1 hvx1
  go_wp2_with fail
  go_loopg [8] (n - cs.length) (fun r i wr => ∃ (k : Nat) (vs : List Value), k ≤ n ∧ r = n - k ∧ i = .int .i64 k ∧ (0 < n → 0 < k) ∧ vs.length = n ∧ (∀ j, j < k → vs[j]? = some (.int .i64 x)) ∧
    Row wr w.heap.size 3 1 n vs ∧ Below w.heap.size w wr)
  case atStart =>
    have h1 := Hmin.out; have h2 := Hcl.out
    exact ⟨cs.length, _, hcl0, rfl, rfl, by omega, Hvl1.out, Hvx1.out, hrow, ((Below.refl _ _).alloc (Nat.le_refl _) _).grown hgr (by simp) (fun k hk => by cases hk; exact Nat.le_refl _)⟩
  case round =>
    obtain ⟨k, vs, hk, hgk, rfl, hpos, hvl, hvx, hrow, hb⟩ := hrel
    by_cases hlt : k < n
    · obtain ⟨m, hm⟩ : ∃ m, m = Nat.min k (n - k) := ⟨_, rfl⟩
      have hm1 : m ≤ k := by rw [hm]; exact Nat.min_le_left _ _
      have hm2 : m ≤ n - k := by rw [hm]; exact Nat.min_le_right _ _
      have hm3 : 0 < m := by rw [hm]; exact Nat.lt_min.2 ⟨hpos (by omega), by omega⟩
      obtain ⟨ds, hds⟩ : ∃ ds, ds = List.replicate m (Value.int .i64 x) := ⟨_, rfl⟩
      have hdl : ds.length = m := by rw [hds]; simp
      have hdx : ∀ j v, ds[j]? = some v → j < m ∧ v = Value.int .i64 x := by
        intro j v h
        rw [hds] at h
        obtain ⟨h1, h2⟩ := List.getElem?_eq_some_iff.1 h
        simp at h1 h2
        exact ⟨h1, h2.symm⟩
      have hd0 : ds.length ≤ n - k := by omega
      have hck : ¬ n = k := by omega
      have hi1 : (k : Int) < (n : Int) := by omega
      have hi2 : (k : Int) ≤ (n : Int) := by omega
      have hi3 : (0 : Int) ≤ (k : Int) := by omega
      have i1 : IntKind.i64.wrap ((k : Int) + (ds.length : Int)) = (k : Int) + (ds.length : Int) := IntWalk.i64_in _ (by omega)
      have Hm := Lib.hid hm; have Hdl := Lib.hid hdl; have Hds := Lib.hid hds; have Hdx := Lib.hid hdx; have Hvl := Lib.hid hvl; have Hvx := Lib.hid hvx; have Hgk := Lib.hid hgk
      have Hm3 := Lib.hid hm3
      clear hm hdl hdx hds hvl hvx hgk hm3
      go_wp2_with fail
      go_region_held3 (fun w' => True) (first | trivial | go_keep)
        (first | (refine step_copy_row rfl (.tmp 41) (.tmp 44) 27 27 rfl 3 Try.underlying27 int_size (some ⟨w.heap.size, k, none⟩) (some ⟨w.heap.size, 0, none⟩) (n - k) (n - k) k n (by simp [Act.eval, Act.put, hck]) (by simp [Act.eval, Act.put]) w.heap.size k n vs hrow ds (by rw [Hdl.out]; exact Hm.out) (fun _ => ⟨rfl, _, rfl, fun j v hj => by obtain ⟨h1, rfl⟩ := Hdx.out j v hj; rw [Addr.add_lit, Nat.zero_add]; exact (hrow.cell? j (by rw [Hvl.out]; omega)).trans (Hvx.out j (by omega))⟩) (by rw [Hvl.out]; omega) (fun v hv => by obtain ⟨j, hj, hv⟩ := List.getElem_of_mem hv; rw [(Hdx.out j v (by rw [← hv]; simp)).2]; rfl) ?_; intro w2 hrow2 hgr2))
      go_wp2_with fail
      go_roundg (n - (k + ds.length))
      case measure => have := Hgk.out; have := Hdl.out; have := Hm3.out; omega
      case rel =>
        have hdl := Hdl.out
        refine ⟨k + ds.length, spliced vs k ds, by omega, rfl, by go_num, by omega, ?_, ?_, hrow2, hb.drew.grown hgr2 hb.size (fun k hk => by cases hk; exact Nat.le_refl _)⟩
        · rw [spliced_length (by rw [Hvl.out]; omega)]; exact Hvl.out
        · intro j hj
          unfold spliced
          by_cases hjk : j < k
          · rw [List.getElem?_append_left (by simp [Hvl.out]; omega), List.getElem?_take, if_pos hjk]
            exact Hvx.out j hjk
          · rw [List.getElem?_append_right (by simp [Hvl.out]; omega)]
            rw [List.length_take, Hvl.out, Nat.min_eq_left hk]
            rw [List.getElem?_append_left (by omega), Hds.out, List.getElem?_replicate, if_pos (by omega)]
    · go_wp2_with fail
      go_ret
      have hkn : k = n := by omega
      have hvs : vs = List.replicate n (Value.int .i64 x) := by
        apply List.ext_getElem?
        intro j
        rw [List.getElem?_replicate]
        split
        · exact hvx j (by omega)
        · rw [List.getElem?_eq_none (by omega)]
      exact ⟨w.heap.size, by simp, Nat.le_refl _, by rw [hvs] at hrow; simpa using hrow, hb⟩
end Go.Proofs.Ytddndhhhmlcgjaa
