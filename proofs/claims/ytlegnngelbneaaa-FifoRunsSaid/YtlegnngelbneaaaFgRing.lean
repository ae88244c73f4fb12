/- Contracts of the calls of fifo's ring of byte slices. Conditions: none beyond each lemma's own hypotheses. -/
import Derived.Test.YtlegnngelbneaaaFgBytes
import Derived.Deep.RegionHeld3
import Derived.Deep.RegionWith
namespace Go.Proofs.Ytlegnngelbneaaa.Fifo
open Go.RowKit Go.Proofs.Ytlegnngelbneaaa.Fg

/-- The cells of a queue: its list, where it begins, how many wait, how many bytes. -/
def qcells (lb cap at_ many : Nat) (bytes : Int) : Array Value := #[.slice (some ⟨lb, 0, none⟩) cap cap, .int .i64 at_, .int .i64 many, .int .i64 bytes]
/-- A queue's two blocks, as they stand. -/
structure Blocks (w : World) (g lb cap at_ many : Nat) (bytes : Int) (arr : Array Value) : Prop where
  head : w.heap[g]? = some (.cells (qcells lb cap at_ many bytes) 48 (0, 0))
  list : w.heap[lb]? = some (.cells arr 27 (0, 0))
  size : arr.size = cap
  most : cap ≤ 64
  pos : at_ ≤ 64
  many : many ≤ 64
theorem Blocks.ne {w : World} {g lb cap at_ many : Nat} {bytes : Int} {arr : Array Value} (h : Blocks w g lb cap at_ many bytes arr) : ¬ g = lb := by
  intro e
  subst e
  have h1 := h.head
  rw [h.list] at h1
  injection h1 with h1
  injection h1 with _ h1
  exact absurd h1 (by decide)
theorem Blocks.same {w w' : World} {g lb cap at_ many : Nat} {bytes : Int} {arr : Array Value} (h : Blocks w g lb cap at_ many bytes arr) (h1 : w'.heap[g]? = w.heap[g]?) (h2 : w'.heap[lb]? = w.heap[lb]?) :
    Blocks w' g lb cap at_ many bytes arr := ⟨h1.trans h.head, h2.trans h.list, h.size, h.most, h.pos, h.many⟩

theorem place_any (g lb cap at_ many i : Nat) (bytes : Int) (arr : Array Value) (w : World) (h : Blocks w g lb cap at_ many bytes arr) (hc : 0 < cap) (hi : i ≤ 64) :
    Calls Try.prog 23 #[.pointer (some ⟨g, 0, none⟩), .int .i64 i] w fun e w' => e = .returned (.int .i64 ((at_ + i) % cap : Nat)) ∧ ∃ n, w' = w.drewN n := by
  have c0 : w.cell? ⟨g, 0, none⟩ = some (.slice (some ⟨lb, 0, none⟩) cap cap) := cell_of_block h.head 0
  have c1 : w.cell? ⟨g, 1, none⟩ = some (.int .i64 at_) := cell_of_block h.head 1
  have b1 : (at_ : Int) ≤ 64 := by have := h.pos; omega
  have b2 : (i : Int) ≤ 64 := by omega
  have b3 : ¬ cap = 0 := by omega
  have b4 : ¬ (cap : Int) = 0 := by omega
  have b5 : (1 : Int) ≤ cap := by omega
  have b6 : (cap : Int) ≤ 64 := by have := h.most; omega
  have e0 : wrap64 ((at_ : Int) + i) = (at_ : Int) + i := w64 (by omega) (by omega)
  have e1 : ((at_ + i) % cap : Nat) = ((at_ : Int) + i) % cap := by simp
  rw [e1]
  clear h hi e1
  go_enter Try.func23, Try.ntmps23
  go_wp2_with fail
  go_quiet (fail)
  go_wp2_with fail
  go_ret
  exact ⟨rfl, _, rfl⟩

theorem peek_none (g lb cap at_ : Nat) (bytes : Int) (arr : Array Value) (w : World) (h : Blocks w g lb cap at_ 0 bytes arr) :
    Calls Try.prog 22 #[.pointer (some ⟨g, 0, none⟩)] w fun e w' => e = .returned (.tuple #[.slice none 0 0, .bool false]) ∧ w = w' := by
  have c2 : w.cell? ⟨g, 2, none⟩ = some (.int .i64 0) := cell_of_block h.head 2
  clear h
  go_enter Try.func22, Try.ntmps22
  go_wp2_with fail
  go_ret2
  exact ⟨rfl, rfl⟩

theorem peek_some (g lb cap at_ many : Nat) (bytes : Int) (arr : Array Value) (w : World) (A : Option Addr) (n c : Nat) (h : Blocks w g lb cap at_ many bytes arr) (hm : 0 < many) (ha : at_ < cap) (hv : arr[at_]? = some (.slice A n c)) :
    Calls Try.prog 22 #[.pointer (some ⟨g, 0, none⟩)] w fun e w' => e = .returned (.tuple #[.slice A n c, .bool true]) ∧ ∃ m, w' = w.drewN m := by
  have c0 : w.cell? ⟨g, 0, none⟩ = some (.slice (some ⟨lb, 0, none⟩) cap cap) := cell_of_block h.head 0
  have c1 : w.cell? ⟨g, 1, none⟩ = some (.int .i64 at_) := cell_of_block h.head 1
  have c2 : w.cell? ⟨g, 2, none⟩ = some (.int .i64 many) := cell_of_block h.head 2
  have c3 : w.cell? ⟨lb, at_, none⟩ = some (.slice A n c) := (cell_of_block h.list at_).trans hv
  have b1 : ((many : Int) == 0) = false := by rw [beq_eq_false_iff_ne]; omega
  have b2 : (at_ : Int) < cap := by omega
  have b3 : (0 : Int) ≤ at_ := by omega
  clear h hv
  go_enter Try.func22, Try.ntmps22
  go_wp2_with fail
  go_quiet (fail)
  go_wp2_with fail
  go_ret2
  exact ⟨rfl, _, rfl⟩

theorem push_full (g lb cap at_ many : Nat) (bytes : Int) (arr : Array Value) (w : World) (A : Option Addr) (n c : Nat) (h : Blocks w g lb cap at_ many bytes arr) (hm : cap ≤ many) :
    Calls Try.prog 19 #[.pointer (some ⟨g, 0, none⟩), .slice A n c] w fun e w' => e = .returned (.bool false) ∧ ∃ m, w' = w.drewN m := by
  have c0 : w.cell? ⟨g, 0, none⟩ = some (.slice (some ⟨lb, 0, none⟩) cap cap) := cell_of_block h.head 0
  have c2 : w.cell? ⟨g, 2, none⟩ = some (.int .i64 many) := cell_of_block h.head 2
  have b1 : (cap : Int) ≤ many := by omega
  clear h hm
  go_enter Try.func19, Try.ntmps19
  go_wp2_with fail
  go_quiet (fail)
  go_wp2_with fail
  go_ret
  exact ⟨rfl, _, rfl⟩

/-- What a push leaves. -/
def Pushed (w : World) (g lb cap at_ many : Nat) (bytes : Int) (arr : Array Value) (v : Value) (e : Ending) (w' : World) : Prop :=
  e = .returned (.bool true) ∧ Blocks w' g lb cap at_ (many + 1) bytes (arr.setIfInBounds ((at_ + many) % cap) v) ∧ Keep (fun k => k = g ∨ k = lb) w w'
theorem push_room (g lb cap at_ many : Nat) (bytes : Int) (arr : Array Value) (w : World) (A : Option Addr) (n c : Nat) (h : Blocks w g lb cap at_ many bytes arr) (hm : many < cap) :
    Calls Try.prog 19 #[.pointer (some ⟨g, 0, none⟩), .slice A n c] w (Pushed w g lb cap at_ many bytes arr (.slice A n c)) := by
  have c0 : w.cell? ⟨g, 0, none⟩ = some (.slice (some ⟨lb, 0, none⟩) cap cap) := cell_of_block h.head 0
  have c2 : w.cell? ⟨g, 2, none⟩ = some (.int .i64 many) := cell_of_block h.head 2
  have hi : (at_ + many) % cap < cap := Nat.mod_lt _ (by omega)
  obtain ⟨ix, hix⟩ : ∃ ix, ix = (at_ + many) % cap := ⟨_, rfl⟩
  obtain ⟨ov, hov⟩ : ∃ ov, w.cell? ⟨lb, ix, none⟩ = some ov := ⟨_, (cell_of_block h.list ix).trans (Array.getElem?_eq_getElem (by rw [h.size, hix]; exact hi))⟩
  have f0 : w.frozen? ⟨lb, ix, none⟩ = false := free_of_block h.list ix
  have f1 : w.frozen? ⟨g, 2, none⟩ = false := free_of_block h.head 2
  have hne := h.ne
  have hne' : ¬ lb = g := fun e => hne e.symm
  have b1 : ¬ ((cap : Int) ≤ many) := by omega
  have b2 : (many : Int) + 1 ≤ 65 := by have := h.many; omega
  have hP := Lib.hid (fun n => place_any g lb cap at_ many many bytes arr (w.drewN n) (h.same rfl rfl) (by omega) h.many)
  have H := Lib.hid h
  have HI := Lib.hid hi
  have HX := Lib.hid hix
  have hx1 : (ix : Int) < cap := by rw [hix]; omega
  rw [← hix] at hP
  clear h hm hi hix
  go_enter Try.func19, Try.ntmps19
  go_wp2_with fail
  go_quiet (fail)
  go_wp2_with fail
  go_region_held3 (fun w' => w'.cell? ⟨g, 0, none⟩ = some (.slice (some ⟨lb, 0, none⟩) cap cap) ∧ w'.cell? ⟨g, 2, none⟩ = some (.int .i64 many)) (first | go_keep) ((go_at_call 23; refine (hP.out _).mono ?_; rintro e w' ⟨rfl, m, rfl⟩))
  go_wp2_with fail
  go_ret
  have h := H.out
  refine ⟨rfl, ⟨?_, ?_, ?_, h.most, h.pos, ?_⟩, ?_⟩
  · exact (hset_at _ g 2 _ ((hset_other _ _ _ hne).trans h.head)).trans (by simp [qcells])
  · exact (hset_other _ _ _ hne').trans ((hset_at _ lb ix _ h.list).trans (by rw [HX.out]))
  · simpa using h.size
  · have := h.most; omega
  · exact (((Keep.refl _ w).drewN _).setCell _ _ (fun _ => .inr rfl)).setCell _ _ (fun _ => .inl rfl)

/-- What a pop leaves, where there is something. -/
def Popped (w : World) (g lb cap at_ many : Nat) (bytes : Int) (arr : Array Value) (v : Value) (e : Ending) (w' : World) : Prop :=
  e = .returned (.tuple #[v, .bool true]) ∧ Blocks w' g lb cap ((at_ + 1) % cap) (many - 1) bytes (arr.setIfInBounds at_ (.slice none 0 0)) ∧ Keep (fun k => k = g ∨ k = lb) w w'
theorem pop_none (g lb cap at_ : Nat) (bytes : Int) (arr : Array Value) (w : World) (h : Blocks w g lb cap at_ 0 bytes arr) :
    Calls Try.prog 21 #[.pointer (some ⟨g, 0, none⟩)] w fun e w' => e = .returned (.tuple #[.slice none 0 0, .bool false]) ∧ w = w' := by
  have hp := Lib.hid (peek_none g lb cap at_ bytes arr w h)
  clear h
  go_enter Try.func21, Try.ntmps21
  go_wp2_with fail
  refine hp.out.mono ?_
  rintro e w' ⟨rfl, rfl⟩
  go_wp2_with fail
  go_ret2
  exact ⟨rfl, rfl⟩
theorem pop_some (g lb cap at_ many : Nat) (bytes : Int) (arr : Array Value) (w : World) (A : Option Addr) (n c : Nat) (h : Blocks w g lb cap at_ many bytes arr) (hm : 0 < many) (ha : at_ < cap) (hv : arr[at_]? = some (.slice A n c)) :
    Calls Try.prog 21 #[.pointer (some ⟨g, 0, none⟩)] w (Popped w g lb cap at_ many bytes arr (.slice A n c)) := by
  have hp := Lib.hid (peek_some g lb cap at_ many bytes arr w A n c h hm ha hv)
  have c0 : w.cell? ⟨g, 0, none⟩ = some (.slice (some ⟨lb, 0, none⟩) cap cap) := cell_of_block h.head 0
  have c1 : w.cell? ⟨g, 1, none⟩ = some (.int .i64 at_) := cell_of_block h.head 1
  have c2 : w.cell? ⟨g, 2, none⟩ = some (.int .i64 many) := cell_of_block h.head 2
  have c3 : w.cell? ⟨lb, at_, none⟩ = some (.slice A n c) := (cell_of_block h.list at_).trans hv
  have f0 : w.frozen? ⟨lb, at_, none⟩ = false := free_of_block h.list at_
  have f1 : w.frozen? ⟨g, 1, none⟩ = false := free_of_block h.head 1
  have f2 : w.frozen? ⟨g, 2, none⟩ = false := free_of_block h.head 2
  have hne := h.ne
  have hne' : ¬ lb = g := fun e => hne e.symm
  have b1 : (at_ : Int) < cap := by omega
  have b2 : (0 : Int) ≤ at_ := by omega
  have b3 : (1 : Int) ≤ many := by omega
  have b4 : (many : Int) ≤ 64 := by have := h.many; omega
  have hP := Lib.hid (fun m => place_any g lb cap at_ many 1 bytes (arr.setIfInBounds at_ (.slice none 0 0)) ((w.drewN m).setCell ⟨lb, at_, none⟩ (.slice none 0 0))
    ⟨(hset_other _ _ _ hne).trans h.head, hset_at _ lb at_ _ h.list, by simpa using h.size, h.most, h.pos, h.many⟩ (by omega) (by omega))
  have H := Lib.hid h
  have hz : (at_ + 1) % cap < cap := Nat.mod_lt _ (by omega)
  have HZ := Lib.hid hz
  clear h hm hv hz
  go_enter Try.func21, Try.ntmps21
  go_wp2_with fail
  refine hp.out.mono ?_
  rintro e w' ⟨rfl, m, rfl⟩
  go_wp2_with fail
  go_region_held3 (fun w' => w'.cell? ⟨g, 0, none⟩ = some (.slice (some ⟨lb, 0, none⟩) cap cap) ∧ w'.cell? ⟨g, 1, none⟩ = some (.int .i64 at_)) (first | go_keep) ((fail))
  go_wp2_with fail
  refine (hP.out _).mono ?_
  rintro e w' ⟨rfl, m2, rfl⟩
  go_wp2_with fail
  go_ret2
  have h := H.out
  have hz := HZ.out
  refine ⟨rfl, ⟨?_, ?_, ?_, h.most, ?_, ?_⟩, ?_⟩
  · refine (hset_at _ g 2 _ (hset_at _ g 1 _ ((hset_other _ _ _ hne).trans h.head))).trans ?_
    simp [qcells]
    omega
  · exact (hset_other _ _ _ hne').trans ((hset_other _ _ _ hne').trans (hset_at _ lb at_ _ h.list))
  · simpa using h.size
  · have := h.most; omega
  · have := h.many; omega
  · exact (((((Keep.refl _ w).drewN _).setCell _ _ (fun _ => .inr rfl)).drewN _).setCell _ _ (fun _ => .inl rfl)).setCell _ _ (fun _ => .inl rfl)

end Go.Proofs.Ytlegnngelbneaaa.Fifo
