/- Contracts of fifo's queue: it holds lists of bytes, first in, first out. Conditions: none beyond each lemma's own hypotheses. -/
import Derived.Test.YtlegnngelbneaaaFgRing
namespace Go.Proofs.Ytlegnngelbneaaa.Fifo
open Go.RowKit Go.Proofs.Ytlegnngelbneaaa.Fg

/-- How many bytes there are. -/
def tot (ls : List (List Int)) : Int := (ls.map fun l => (l.length : Int)).sum
theorem tot_nil : tot [] = 0 := rfl
theorem tot_cons (l : List Int) (ls : List (List Int)) : tot (l :: ls) = l.length + tot ls := by simp [tot]
theorem tot_snoc (l : List Int) (ls : List (List Int)) : tot (ls ++ [l]) = tot ls + l.length := by simp [tot]
theorem tot_bound {ls : List (List Int)} (h : ∀ l ∈ ls, l.length ≤ 140737488355328) : 0 ≤ tot ls ∧ tot ls ≤ ls.length * 140737488355328 := by
  induction ls with
  | nil => simp [tot]
  | cons l ls ih =>
    have h1 := h l (by simp)
    have h2 := ih (fun x hx => h x (by simp [hx]))
    rw [tot_cons, List.length_cons]
    omega

/-- A queue at block g: it may hold so many, it holds these lists; all that it is made of lies in blocks of F. -/
structure IsQ (w : World) (g lb cap : Nat) (ls : List (List Int)) (F : Nat → Prop) : Prop where
  ex : ∃ (at_ : Nat) (arr : Array Value), Blocks w g lb cap at_ ls.length (tot ls) arr ∧ (at_ < cap ∨ cap = 0 ∧ at_ = 0) ∧ ls.length ≤ cap ∧ F lb ∧
    ∀ (i : Nat) (l : List Int), ls[i]? = some l → ∃ A c, arr[(at_ + i) % cap]? = some (.slice A l.length c) ∧ w.ownsRow 0 5 1 (.slice A l.length c) l.length (bv l) ∧ ∀ k, (Value.slice A l.length c).ownBlock = some k → F k
  self : F g
  lt : ∀ k, F k → k < w.heap.size
  small : ∀ l ∈ ls, l.length ≤ 140737488355328

theorem IsQ.same {w w' : World} {g lb cap : Nat} {ls : List (List Int)} {F : Nat → Prop} (h : IsQ w g lb cap ls F) (hb : ∀ k, F k → w'.heap[k]? = w.heap[k]?) : IsQ w' g lb cap ls F := by
  obtain ⟨⟨at_, arr, h1, h2, h3, h4, h5⟩, h6, h7, h8⟩ := h
  refine ⟨⟨at_, arr, h1.same (hb g h6) (hb lb h4), h2, h3, h4, fun i l hl => ?_⟩, h6, fun k hk => ?_, h8⟩
  · obtain ⟨A, c, e1, e2, e3⟩ := h5 i l hl
    exact ⟨A, c, e1, own_same e2 (fun k hk => hb k (e3 k hk)), e3⟩
  · have hlt := h7 k hk
    have e := hb k hk
    rw [Array.getElem?_eq_getElem hlt] at e
    exact block_lt e
theorem IsQ.keep {w w' : World} {g lb cap : Nat} {ls : List (List Int)} {F S : Nat → Prop} (h : IsQ w g lb cap ls F) (hk : Keep S w w') (hs : ∀ k, F k → ¬ S k) : IsQ w' g lb cap ls F :=
  h.same fun k hF => hk.block k (h.lt k hF) (hs k hF)
theorem IsQ.cap_le {w : World} {g lb cap : Nat} {ls : List (List Int)} {F : Nat → Prop} (h : IsQ w g lb cap ls F) : cap ≤ 64 ∧ ls.length ≤ cap := by
  obtain ⟨⟨at_, arr, h1, h2, h3, h4, h5⟩, h6, h7, h8⟩ := h
  exact ⟨h1.most, h3⟩

theorem IsQ.row_ne {w : World} {g lb cap : Nat} {ls : List (List Int)} {F : Nat → Prop} (h : IsQ w g lb cap ls F) {base n : Nat} {v : Value} {xs : List Value} (ho : w.ownsRow base 5 1 v n xs) :
    ∀ k, v.ownBlock = some k → ¬ (k = g ∨ k = lb) := by
  obtain ⟨at_, arr, h1, -⟩ := h.ex
  intro k hk e
  rcases e with rfl | rfl
  · exact absurd (own_type ho hk h1.head) (by decide)
  · exact absurd (own_type ho hk h1.list) (by decide)

theorem IsQ.lts {w : World} {g lb cap : Nat} {ls : List (List Int)} {F : Nat → Prop} (h : IsQ w g lb cap ls F) : g < w.heap.size ∧ lb < w.heap.size := by
  obtain ⟨at_, arr, h1, -⟩ := h.ex
  exact ⟨block_lt h1.head, block_lt h1.list⟩
theorem IsQ.at_new {w : World} {g lb cap : Nat} {ls : List (List Int)} {F : Nat → Prop} (h : IsQ w g lb cap ls F) {n : Nat} (hn : w.heap.size ≤ n) : ¬ (n = g ∨ n = lb) := by
  have := h.lts; omega

theorem len_any {w : World} {g lb cap : Nat} {ls : List (List Int)} {F : Nat → Prop} (h : IsQ w g lb cap ls F) :
    Calls Try.prog 11 #[.pointer (some ⟨g, 0, none⟩)] w fun e w' => e = .returned (.int .i64 ls.length) ∧ w = w' := by
  obtain ⟨at_, arr, h1, -⟩ := h.ex
  have c2 : w.cell? ⟨g, 2, none⟩ = some (.int .i64 ls.length) := cell_of_block h1.head 2
  clear h h1
  go_enter Try.func11, Try.ntmps11
  go_wp2_with fail
  go_ret
  exact ⟨rfl, rfl⟩
theorem bytes_any {w : World} {g lb cap : Nat} {ls : List (List Int)} {F : Nat → Prop} (h : IsQ w g lb cap ls F) :
    Calls Try.prog 12 #[.pointer (some ⟨g, 0, none⟩)] w fun e w' => e = .returned (.int .i64 (tot ls)) ∧ w = w' := by
  obtain ⟨at_, arr, h1, -⟩ := h.ex
  have c2 : w.cell? ⟨g, 3, none⟩ = some (.int .i64 (tot ls)) := cell_of_block h1.head 3
  clear h h1
  go_enter Try.func12, Try.ntmps12
  go_wp2_with fail
  go_ret
  exact ⟨rfl, rfl⟩

/-- What a Push leaves. -/
def PushedQ (w : World) (g lb cap : Nat) (ls : List (List Int)) (F : Nat → Prop) (r : Int) (e : Ending) (w' : World) : Prop :=
  e = .returned (.int .i64 r) ∧ ∃ F', IsQ w' g lb cap ls F' ∧ Keep (fun k => k = g ∨ k = lb) w w' ∧ ∀ k, F' k → F k ∨ w.heap.size ≤ k

theorem push_out {w : World} {g lb cap : Nat} {ls : List (List Int)} {F : Nat → Prop} (h : IsQ w g lb cap ls F) (l : List Int) (A : Option Addr) (c : Nat) (hs : Src w A l.length c (bv l)) (hn : l.length ≤ 140737488355328) (hm : cap ≤ ls.length) :
    Calls Try.prog 9 #[.pointer (some ⟨g, 0, none⟩), .slice A l.length c] w (PushedQ w g lb cap ls F 191) := by
  obtain ⟨at_, arr, h1, h2, h3, h4, h5⟩ := h.ex
  have HQ := Lib.hid h
  have H1 := Lib.hid h1
  have HM := Lib.hid hm
  have lt1 := h.lt _ h.self
  have lt2 := h.lt _ h4
  clear h h1 h2 h3 h4 h5 hm
  go_enter Try.func9, Try.ntmps9
  go_wp2_with fail
  go_region_with (first
    | (go_at_call 20; refine (clone_any l A c _ ?_ hn).mono ?_; exact hs.same (fun _ _ _ => rfl); rintro e w1 ⟨v, rfl, hown, hb, -⟩; obtain ⟨A', c', rfl, -⟩ := own_form hown)
    | (go_at_call 19; refine (push_full g lb cap at_ ls.length (tot ls) arr _ A' _ c' ?_ HM.out).mono ?_; exact H1.out.same (hb.block _ (by simp; omega)) (hb.block _ (by simp; omega)); rintro e w2 ⟨rfl, m, rfl⟩))
  go_wp2_with fail
  go_ret
  have hb' : Below w.heap.size w w1 := ⟨hb.os, hb.tape, hb.output, hb.size, hb.block⟩
  exact ⟨rfl, F, HQ.out.same (fun k hk => hb'.block k (HQ.out.lt k hk)), (Keep.of_new hb').drewN m, fun k hk => .inl hk⟩

theorem push_in {w : World} {g lb cap : Nat} {ls : List (List Int)} {F : Nat → Prop} (h : IsQ w g lb cap ls F) (l : List Int) (A : Option Addr) (c : Nat) (hs : Src w A l.length c (bv l)) (hn : l.length ≤ 140737488355328) (hm : ls.length < cap) :
    Calls Try.prog 9 #[.pointer (some ⟨g, 0, none⟩), .slice A l.length c] w (PushedQ w g lb cap (ls ++ [l]) F 0) := by
  obtain ⟨at_, arr, h1, h2, h3, h4, h5⟩ := h.ex
  have hcap := h.cap_le.1
  have hsmall : ∀ x ∈ ls ++ [l], x.length ≤ 140737488355328 := by
    intro x hx
    rcases List.mem_append.1 hx with hx | hx
    · exact h.small x hx
    · rw [List.mem_singleton.1 hx]; exact hn
  have hat : at_ < cap := by omega
  have hne := h1.ne
  have tb := tot_bound h.small
  have tb2 : tot ls ≤ 9007199254740992 := by have := h.cap_le; omega
  have tb0 : 0 ≤ tot ls := tb.1
  have HQ := Lib.hid h
  have H1 := Lib.hid h1
  have HM := Lib.hid hm
  have HS := Lib.hid hsmall
  have HA := Lib.hid hat
  have H5 := Lib.hid h5
  have H4 := Lib.hid h4
  have lt1 := h.lt _ h.self
  have lt2 := h.lt _ h4
  clear h h1 h2 h3 h4 h5 hm hsmall hat tb
  go_enter Try.func9, Try.ntmps9
  go_wp2_with fail
  go_region_with (first
    | (go_at_call 20; refine (clone_any l A c _ ?_ hn).mono ?_; exact hs.same (fun _ _ _ => rfl); rintro e w1 ⟨v, rfl, hown, hb, -⟩; obtain ⟨A', c', rfl, -⟩ := own_form hown)
    | (go_at_call 19; refine (push_room g lb cap at_ ls.length (tot ls) arr _ A' _ c' ?_ HM.out).mono ?_; exact H1.out.same (hb.block _ (by simp; omega)) (hb.block _ (by simp; omega)); rintro e w2 ⟨rfl, hB, hK⟩))
  have d3 : w2.cell? ⟨g, 3, none⟩ = some (.int .i64 (tot ls)) := cell_of_block hB.head 3
  have f3 : w2.frozen? ⟨g, 3, none⟩ = false := free_of_block hB.head 3
  have hb' : Below w.heap.size w w1 := ⟨hb.os, hb.tape, hb.output, hb.size, hb.block⟩
  have hown' : w1.ownsRow w.heap.size 5 1 (.slice A' l.length c') l.length (bv l) := hown
  have HB := Lib.hid hB
  have HK := Lib.hid hK
  have HO := Lib.hid hown'
  have HBW := Lib.hid hb'
  clear hB hK hown' hown hb hb'
  go_wp2_with fail
  go_ret
  have h := HQ.out
  have hB := HB.out
  have hK := HK.out
  have hb := HBW.out
  have ho := HO.out
  have hat := HA.out
  have hlen : (ls ++ [l]).length = ls.length + 1 := by simp
  have hm := HM.out
  refine ⟨rfl, fun k => F k ∨ (Value.slice A' l.length c').ownBlock = some k, ⟨⟨at_, arr.setIfInBounds ((at_ + ls.length) % cap) (.slice A' l.length c'), ?_, .inl hat, by omega, .inl H4.out, ?_⟩, .inl h.self, ?_, HS.out⟩, ?_, ?_⟩
  · refine ⟨?_, (hset_other _ _ _ (fun e => hne e.symm)).trans hB.list, hB.size, hB.most, hB.pos, by rw [hlen]; exact hB.many⟩
    refine (hset_at _ g 3 _ hB.head).trans ?_
    simp [qcells, tot_snoc]
  · intro i x hx
    have hcapm := h.cap_le
    rcases Nat.lt_or_ge i ls.length with hi | hi
    · rw [List.getElem?_append_left hi] at hx
      obtain ⟨A1, c1, e1, e2, e3⟩ := H5.out i x hx
      refine ⟨A1, c1, ?_, ?_, fun k hk => .inl (e3 k hk)⟩
      · rw [Array.getElem?_setIfInBounds, if_neg]
        · exact e1
        · intro e
          have m1 : ∀ a b : Nat, a < cap → b < cap → (a + b) % cap = if a + b < cap then a + b else a + b - cap := by
            intro a b ha hb
            split
            · exact Nat.mod_eq_of_lt (by assumption)
            · rw [Nat.mod_eq_sub_mod (by omega), Nat.mod_eq_of_lt (by omega)]
          rw [m1 _ _ hat hm, m1 _ _ hat (by omega)] at e
          split at e <;> split at e <;> omega
      · refine own_same e2 (fun k hk => ?_)
        have hFk := e3 k hk
        have hlt := h.lt k hFk
        have hbk : w1.heap[k]? = w.heap[k]? := hb.block k hlt
        have hk1 : ¬ k = g := fun e => by
          subst e
          have := own_type e2 hk (H1.out.head)
          exact absurd this (by decide)
        have hk2 : ¬ k = lb := fun e => by
          subst e
          have := own_type e2 hk (H1.out.list)
          exact absurd this (by decide)
        rw [hset_other _ _ _ hk1]
        exact (hK.block k (by have := hb.size; omega) (fun e => by rcases e with e | e; exact hk1 e; exact hk2 e)).trans hbk
    · have hi' : i = ls.length := by
        have := (List.getElem?_eq_some_iff.1 hx).1
        omega
      subst hi'
      have hx' : x = l := by simpa using hx.symm
      subst hx'
      refine ⟨A', c', ?_, ?_, fun k hk => .inr hk⟩
      · rw [Array.getElem?_setIfInBounds, if_pos rfl, if_pos]
        rw [H1.out.size]
        exact Nat.mod_lt _ (by omega)
      · refine own_base (base := w.heap.size) (own_same ho (fun k hk => ?_)) (Nat.zero_le _)
        have hge := ho.lt k hk
        have hk1 : ¬ k = g := fun e => by omega
        have hk2 : ¬ k = lb := fun e => by omega
        rw [hset_other _ _ _ hk1]
        exact hK.block k hge.2 (fun e => by rcases e with e | e; exact hk1 e; exact hk2 e)
  · intro k hk
    have s1 := hb.size
    have s2 := hK.size
    rcases hk with hk | hk
    · have := h.lt k hk; simp; omega
    · have := (ho.lt k hk).2; simp; omega
  · exact ((Keep.of_new hb).trans hK (fun i _ hi => hi)).setCell _ _ (fun _ => .inl rfl)
  · intro k hk
    rcases hk with hk | hk
    · exact .inl hk
    · exact .inr (ho.lt k hk).1

/-- What a Pop leaves. -/
def PoppedQ (w : World) (g lb cap : Nat) (l : List Int) (ls : List (List Int)) (F : Nat → Prop) (e : Ending) (w' : World) : Prop :=
  ∃ A c, e = .returned (.tuple #[.slice A l.length c, .bool true]) ∧ IsQ w' g lb cap ls F ∧ Keep (fun k => k = g ∨ k = lb) w w' ∧ w'.ownsRow 0 5 1 (.slice A l.length c) l.length (bv l) ∧ ∀ k, (Value.slice A l.length c).ownBlock = some k → F k
theorem popq_none {w : World} {g lb cap : Nat} {F : Nat → Prop} (h : IsQ w g lb cap [] F) :
    Calls Try.prog 10 #[.pointer (some ⟨g, 0, none⟩)] w fun e w' => e = .returned (.tuple #[.slice none 0 0, .bool false]) ∧ IsQ w' g lb cap [] F ∧ Keep (fun k => k = g ∨ k = lb) w w' := by
  obtain ⟨at_, arr, h1, h2, h3, h4, h5⟩ := h.ex
  have hp := Lib.hid (pop_none g lb cap at_ (tot []) arr w h1)
  have HQ := Lib.hid h
  have H1 := Lib.hid h1
  have c3 : w.cell? ⟨g, 3, none⟩ = some (.int .i64 0) := cell_of_block h1.head 3
  have f3 : w.frozen? ⟨g, 3, none⟩ = false := free_of_block h1.head 3
  have hne := h1.ne
  clear h h1 h2 h3 h4 h5
  go_enter Try.func10, Try.ntmps10
  go_wp2_with fail
  refine hp.out.mono ?_
  rintro e w' ⟨rfl, rfl⟩
  go_wp2_with fail
  go_ret2
  have h := HQ.out
  have hsame : ∀ k : Nat, (w.setCell ⟨g, 3, none⟩ (.int .i64 0)).heap[k]? = w.heap[k]? := by
    intro k
    by_cases hk : k = g
    · subst hk
      refine (hset_at _ _ 3 _ H1.out.head).trans (Eq.trans ?_ H1.out.head.symm)
      simp [qcells, tot]
    · exact hset_other _ _ _ hk
  exact ⟨rfl, h.same (fun k _ => hsame k), (Keep.refl _ _).setCell _ _ (fun _ => .inl rfl)⟩
theorem popq_some {w : World} {g lb cap : Nat} {l : List Int} {ls : List (List Int)} {F : Nat → Prop} (h : IsQ w g lb cap (l :: ls) F) :
    Calls Try.prog 10 #[.pointer (some ⟨g, 0, none⟩)] w (PoppedQ w g lb cap l ls F) := by
  obtain ⟨at_, arr, h1, h2, h3, h4, h5⟩ := h.ex
  have hlen : (l :: ls).length = ls.length + 1 := rfl
  have hcap := h.cap_le
  have hat : at_ < cap := by omega
  obtain ⟨A, c, e1, e2, e3⟩ := h5 0 l rfl
  have e1' : arr[at_]? = some (.slice A l.length c) := by rw [Nat.add_zero, Nat.mod_eq_of_lt hat] at e1; exact e1
  have hp := Lib.hid (pop_some g lb cap at_ _ (tot (l :: ls)) arr w A l.length c h1 (by omega) hat e1')
  have tb := tot_bound h.small
  have tb2 : tot (l :: ls) ≤ 9007199254740992 := by omega
  have tb0 : (0 : Int) ≤ tot (l :: ls) - l.length := by
    rw [tot_cons]
    have := tot_bound (ls := ls) (fun x hx => h.small x (by simp [hx]))
    omega
  have tb3 : (0 : Int) ≤ tot (l :: ls) := tb.1
  have tb4 : (l.length : Int) ≤ 140737488355328 := by have := h.small l (by simp); omega
  have hne := h1.ne
  have HQ := Lib.hid h
  have H1 := Lib.hid h1
  have HA := Lib.hid hat
  have H5 := Lib.hid h5
  have H4 := Lib.hid h4
  have E2 := Lib.hid e2
  have E3 := Lib.hid e3
  clear h h1 h2 h3 h4 h5 hat e1 e1' e2 e3 tb hcap hlen
  go_enter Try.func10, Try.ntmps10
  go_wp2_with fail
  refine hp.out.mono ?_
  rintro e w2 ⟨rfl, hB, hK⟩
  have d3 : w2.cell? ⟨g, 3, none⟩ = some (.int .i64 (tot (l :: ls))) := cell_of_block hB.head 3
  have f3 : w2.frozen? ⟨g, 3, none⟩ = false := free_of_block hB.head 3
  have HB := Lib.hid hB
  have HK := Lib.hid hK
  clear hB hK
  go_wp2_with fail
  go_ret2
  have h := HQ.out
  have hB := HB.out
  have hK := HK.out
  have hat := HA.out
  have hcap := h.cap_le
  have hlen : (l :: ls).length = ls.length + 1 := rfl
  have own2 : ∀ (k : Nat) (n c : Nat) (A : Option Addr) (xs : List Value), w.ownsRow 0 5 1 (.slice A n c) n xs → (∀ k, (Value.slice A n c).ownBlock = some k → F k) → (w2.setCell ⟨g, 3, none⟩ (.int .i64 (tot (l :: ls) - l.length))).ownsRow 0 5 1 (.slice A n c) n xs := by
    intro _ n c A xs e2 e3
    refine own_same e2 (fun k hk => ?_)
    have hlt := h.lt k (e3 k hk)
    have hk1 : ¬ k = g := fun e => by
      subst e
      have := own_type e2 hk (H1.out.head)
      exact absurd this (by decide)
    have hk2 : ¬ k = lb := fun e => by
      subst e
      have := own_type e2 hk (H1.out.list)
      exact absurd this (by decide)
    rw [hset_other _ _ _ hk1]
    exact hK.block k hlt (fun e => by rcases e with e | e; exact hk1 e; exact hk2 e)
  refine ⟨A, c, rfl, ⟨⟨(at_ + 1) % cap, arr.setIfInBounds at_ (.slice none 0 0), ?_, .inl (Nat.mod_lt _ (by omega)), by omega, H4.out, ?_⟩, h.self, ?_, fun x hx => h.small x (by simp [hx])⟩, ?_, own2 0 _ _ _ _ E2.out E3.out, E3.out⟩
  · refine ⟨?_, (hset_other _ _ _ (fun e => hne e.symm)).trans hB.list, hB.size, hB.most, hB.pos, hB.many⟩
    refine (hset_at _ g 3 _ hB.head).trans ?_
    simp [qcells, tot_cons]
    omega
  · intro i x hx
    obtain ⟨A1, c1, f1, f2, f3⟩ := H5.out (i + 1) x (by simpa using hx)
    have hi := (List.getElem?_eq_some_iff.1 hx).1
    refine ⟨A1, c1, ?_, own2 0 _ _ _ _ f2 f3, f3⟩
    have m0 : ((at_ + 1) % cap + i) % cap = (at_ + (i + 1)) % cap := by
      rw [Nat.add_mod, Nat.mod_mod, ← Nat.add_mod]; congr 1; omega
    rw [m0, Array.getElem?_setIfInBounds, if_neg]
    · exact f1
    · intro e
      have m1 : (at_ + (i + 1)) % cap = if at_ + (i + 1) < cap then at_ + (i + 1) else at_ + (i + 1) - cap := by
        split
        · exact Nat.mod_eq_of_lt (by assumption)
        · rw [Nat.mod_eq_sub_mod (by omega), Nat.mod_eq_of_lt (by omega)]
      rw [m1] at e
      split at e <;> omega
  · intro k hk
    have := h.lt k hk
    have s2 := hK.size
    simp; omega
  · exact hK.setCell _ _ (fun _ => .inl rfl)

end Go.Proofs.Ytlegnngelbneaaa.Fifo
