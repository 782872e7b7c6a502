/- walk.Walk, walk.Away. -/
import Derived.Test.YtddndhhhmlcgjaaWalk
import Derived.Test.YtddndhhhmlcgjaaAway
namespace Go.Proofs.Ytddndhhhmlcgjaa
open Go Go.RowKit

theorem beside_ok {n : Int} {m : Nat} {es : List (Int × Int)} (hm : n = m) (h : rightB n es = true) : ∀ (v : Nat) (r : List Nat), (besideL m es)[v]? = some r → r.length ≤ 1000 ∧ ∀ x ∈ r, x < m := by
  intro v r hr
  obtain ⟨h0, h1, h2, h3, _⟩ := (rightB_iff _ _).1 h
  rw [besideL_get] at hr
  split at hr
  · cases hr
    refine ⟨by have := adj_len es v; omega, fun x hx => ?_⟩
    unfold adj at hx
    rw [List.mem_flatMap] at hx
    obtain ⟨e, he, hx⟩ := hx
    obtain ⟨k, hk, rfl⟩ := List.getElem_of_mem he
    have := h3 k hk
    unfold adj1 at hx
    split at hx
    · simp at hx; omega
    · split at hx
      · simp at hx; omega
      · simp at hx
  · cases hr

theorem rdI_one {w : World} {b : Nat} {x : Int} (h : w.cell? ⟨b, 0, none⟩ = some (.int .i64 x)) : RdI w (some ⟨b, 0, none⟩) [x] := by
  intro i u hu
  cases i with
  | zero => simp at hu; subst hu; exact ⟨b, 0, rfl, h⟩
  | succ i => simp at hu
theorem rdI_two {w : World} {b : Nat} {x y : Int} (h : w.cell? ⟨b, 0, none⟩ = some (.int .i64 x)) (h2 : w.cell? ⟨b, 1, none⟩ = some (.int .i64 y)) : RdI w (some ⟨b, 0, none⟩) [x, y] := by
  intro i u hu
  match i with
  | 0 => simp at hu; subst hu; exact ⟨b, 0, rfl, h⟩
  | 1 => simp at hu; subst hu; exact ⟨b, 0, rfl, by simpa using h2⟩
  | i + 2 => simp at hu

def RetWalkFn (w : World) (n : Int) (es : List (Int × Int)) (st : Int) (e : Ending) (w' : World) : Prop :=
  Below w.heap.size w w' ∧
  ((rightB n es = false ∧ e = .returned (.tuple #[.slice none 0 0, .slice none 0 0, .int .i64 20])) ∨
   (rightB n es = true ∧ inR n st = false ∧ e = .returned (.tuple #[.slice none 0 0, .slice none 0 0, .int .i64 2])) ∨
   (rightB n es = true ∧ inR n st = true ∧ ∃ go co gu, e = .returned (.tuple #[.slice (some ⟨go, 0, none⟩) (walkL (besideL n.toNat es) st.toNat).1.length co, .slice (some ⟨gu, 0, none⟩) n.toNat n.toNat, .int .i64 0]) ∧
     Row w' go 3 1 co ((walkL (besideL n.toNat es) st.toNat).1.map vN) ∧ Row w' gu 3 1 n.toNat ((walkL (besideL n.toNat es) st.toNat).2.map (Value.int .i64)) ∧ (walkL (besideL n.toNat es) st.toNat).2.length = n.toNat ∧
     w.heap.size ≤ go ∧ w.heap.size ≤ gu ∧ go ≠ gu))

set_option maxHeartbeats 1000000 in
theorem walkFn_walk (n : Int) (a : Option Addr) (cap : Nat) (es : List (Int × Int)) (st : Int) (w : World) (hr : RdP w a es) (hcap : es.length ≤ 9223372036854775807) :
    Calls Try.prog 12 #[.agg #[.int .i64 n, .slice a es.length cap], .int .i64 st] w (RetWalkFn w n es st) := by
  go_enter Try.func12, Try.ntmps12
  go_wp2_with fail
  refine (start_walk n a cap es _ [st] 1 _ ((hr.below (bl_alloc _ _)).below (bl_alloc _ _)) (rdI_one (by simp)) hcap (by simp)).mono ?_
  rintro e w1 ⟨hb1, hcase⟩
  have hB : Below w.heap.size w w1 := bl_trans (bl_trans (bl_alloc _ _) (bl_alloc _ _)) hb1
  rcases hcase with ⟨hright, rfl⟩ | ⟨hright, hin, rfl⟩ | ⟨hright, hin, G, vals, rfl, hG, hrows⟩
  · have Hr := Lib.hid hright; clear hright
    go_wp2_with fail
    go_ret3
    exact ⟨hB, .inl ⟨Hr.out, rfl⟩⟩
  · have Hr := Lib.hid hright; have Hin := Lib.hid hin; clear hright hin
    go_wp2_with fail
    go_ret3
    exact ⟨hB, .inr (.inl ⟨Hr.out, by simpa using Hin.out, rfl⟩)⟩
  · have hin' : inR n st = true := by simpa using hin
    obtain ⟨h0, h1⟩ := (inR_iff _ _).1 hin'
    obtain ⟨m, rfl⟩ : ∃ m : Nat, n = m := ⟨n.toNat, by omega⟩
    obtain ⟨s, rfl⟩ : ∃ s : Nat, st = s := ⟨st.toNat, by omega⟩
    have hok := beside_ok (m := m) rfl hright
    obtain ⟨_, hn2, _⟩ := (rightB_iff _ _).1 hright
    rw [Int.toNat_natCast] at hrows
    have Hr := Lib.hid hright; have Hin := Lib.hid hin'; have Hok := Lib.hid hok; clear hright hin hin' hok
    simp only [Int.toNat_natCast]
    go_wp2_with (go_at_call 27; refine (walk_walk G m vals (besideL m es) s _ hrows (besideL_length _ _) Hok.out (by omega) (by omega)).mono ?_; rintro e w2 ⟨go, co, gu, rfl, hro, hru, hul, hgo, hgu, hne, hb2⟩)
    go_ret3
    refine ⟨bl_trans hB hb2, .inr (.inr ⟨Hr.out, Hin.out, go, co, gu, ?_, ?_, ?_, ?_, Nat.le_trans hB.size hgo, Nat.le_trans hB.size hgu, hne⟩)⟩
    · simp only [Int.toNat_natCast]; rfl
    · simpa using hro
    · simpa using hru
    · simpa using hul

def RetAwayFn (w : World) (n : Int) (es : List (Int × Int)) (st : Int) (e : Ending) (w' : World) : Prop :=
  Below w.heap.size w w' ∧
  ((rightB n es = false ∧ e = .returned (.tuple #[.slice none 0 0, .int .i64 20])) ∨
   (rightB n es = true ∧ inR n st = false ∧ e = .returned (.tuple #[.slice none 0 0, .int .i64 2])) ∨
   (rightB n es = true ∧ inR n st = true ∧ ∃ g c, e = .returned (.tuple #[.slice (some ⟨g, 0, none⟩) (awayL (besideL n.toNat es) st.toNat).length c, .int .i64 0]) ∧
     Row w' g 3 1 c ((awayL (besideL n.toNat es) st.toNat).map (Value.int .i64)) ∧ w.heap.size ≤ g))

set_option maxHeartbeats 1000000 in
theorem awayFn_walk (n : Int) (a : Option Addr) (cap : Nat) (es : List (Int × Int)) (st : Int) (w : World) (hr : RdP w a es) (hcap : es.length ≤ 9223372036854775807) :
    Calls Try.prog 14 #[.agg #[.int .i64 n, .slice a es.length cap], .int .i64 st] w (RetAwayFn w n es st) := by
  go_enter Try.func14, Try.ntmps14
  go_wp2_with fail
  refine (start_walk n a cap es _ [st] 1 _ ((hr.below (bl_alloc _ _)).below (bl_alloc _ _)) (rdI_one (by simp)) hcap (by simp)).mono ?_
  rintro e w1 ⟨hb1, hcase⟩
  have hB : Below w.heap.size w w1 := bl_trans (bl_trans (bl_alloc _ _) (bl_alloc _ _)) hb1
  rcases hcase with ⟨hright, rfl⟩ | ⟨hright, hin, rfl⟩ | ⟨hright, hin, G, vals, rfl, hG, hrows⟩
  · have Hr := Lib.hid hright; clear hright
    go_wp2_with fail
    go_ret2
    exact ⟨hB, .inl ⟨Hr.out, rfl⟩⟩
  · have Hr := Lib.hid hright; have Hin := Lib.hid hin; clear hright hin
    go_wp2_with fail
    go_ret2
    exact ⟨hB, .inr (.inl ⟨Hr.out, by simpa using Hin.out, rfl⟩)⟩
  · have hin' : inR n st = true := by simpa using hin
    obtain ⟨h0, h1⟩ := (inR_iff _ _).1 hin'
    obtain ⟨m, rfl⟩ : ∃ m : Nat, n = m := ⟨n.toNat, by omega⟩
    obtain ⟨s, rfl⟩ : ∃ s : Nat, st = s := ⟨st.toNat, by omega⟩
    have hok := beside_ok (m := m) rfl hright
    obtain ⟨_, hn2, _⟩ := (rightB_iff _ _).1 hright
    rw [Int.toNat_natCast] at hrows
    have Hr := Lib.hid hright; have Hin := Lib.hid hin'; have Hok := Lib.hid hok; clear hright hin hin' hok
    simp only [Int.toNat_natCast]
    go_wp2_with (go_at_call 30; refine (away_walk G m vals (besideL m es) s _ hrows (besideL_length _ _) Hok.out (by omega) (by omega)).mono ?_; rintro e w2 ⟨g, c, rfl, hro, hgo, hb2⟩)
    go_ret2
    refine ⟨bl_trans hB hb2, .inr (.inr ⟨Hr.out, Hin.out, g, c, ?_, ?_, Nat.le_trans hB.size hgo⟩)⟩
    · simp only [Int.toNat_natCast]; rfl
    · simpa using hro
end Go.Proofs.Ytddndhhhmlcgjaa
