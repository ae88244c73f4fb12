/- The plain laws of packets: what is read of a packet that was made, and what is made of a packet that was read. No program in sight. -/
import Derived.Test.YtjembpchgemhnaaFgHeadRead
set_option linter.unusedVariables false
set_option linter.unusedSimpArgs false
namespace Go.Proofs.Ytjembpchgemhnaa.Head

theorem at0_cons_zero (a : Int) (l : List Int) : at0 (a :: l) 0 = a := rfl
theorem at0_cons_succ (a : Int) (l : List Int) (j : Nat) : at0 (a :: l) (j + 1) = at0 l j := rfl
theorem at0_set {l : List Int} {j : Nat} (c : Int) (k : Nat) (hj : j < l.length) : at0 (l.set j c) k = if j = k then c else at0 l k := by
  simp only [at0, List.getD_eq_getElem?_getD, List.getElem?_set]
  by_cases h : j = k
  · subst h; simp [hj]
  · simp [h]
theorem tot_set : ∀ (l : List Int) (j : Nat) (c : Int), j < l.length → tot (l.set j c) = tot l + (c - at0 l j) * (if j % 2 = 0 then 256 else 1)
  | [], _, _, h => by simp at h
  | [a], 0, c, _ => by simp [tot, at0]; omega
  | [a], j + 1, c, h => by simp at h
  | a :: b :: r, 0, c, _ => by simp [tot, at0]; omega
  | a :: b :: r, 1, c, _ => by simp [tot, at0]; omega
  | a :: b :: r, j + 2, c, h => by
    have ih := tot_set r j c (by simpa using h)
    simp only [List.set_cons_succ, tot, ih]
    have e : at0 (a :: b :: r) (j + 2) = at0 r j := rfl
    rw [e]
    by_cases hp : j % 2 = 0
    · rw [if_pos hp, if_pos (by omega)]; omega
    · rw [if_neg hp, if_neg (by omega)]; omega

def low (h : Hd) (all sum : Int) : List Int := [64 + (20 + (h.opts.length : Int)) / 4, h.tos, all / 256, all % 256, h.id / 256, h.id % 256, h.flags / 256, h.flags % 256, h.ttl, h.proto, sum / 256, sum % 256, h.s0, h.s1, h.s2, h.s3, h.d0, h.d1, h.d2, h.d3]
theorem hdr_low (h : Hd) (all sum : Int) : hdr h all sum = low h all sum ++ h.opts := rfl
theorem hdr_tot (h : Hd) (all sum : Int) : tot (hdr h all sum) = tot (hdr h all 0) + sum := by
  rw [hdr_low, hdr_low, tot_append _ _ (by simp [low]), tot_append _ _ (by simp [low])]
  simp only [low, tot]
  omega
theorem tot_pos {h : Hd} (all : Int) (hs : Small (hdr h all 0)) : 0 < tot (hdr h all 0) := by
  rw [hdr_low, tot_append _ _ (by simp [low])]
  have h1 := (tot_bd h.opts (fun x hx => hs x (by rw [hdr_low]; simp [hx]))).1
  have b : ∀ x ∈ low h all 0, 0 ≤ x ∧ x ≤ 255 := fun x hx => hs x (by rw [hdr_low]; simp [hx])
  have h2 := (tot_bd ((low h all 0).drop 2) (fun x hx => b x (List.mem_of_mem_drop hx))).1
  have h3 := b h.tos (by simp [low])
  have e : tot (low h all 0) = 256 * (64 + (20 + (h.opts.length : Int)) / 4) + h.tos + tot ((low h all 0).drop 2) := rfl
  rw [e]
  omega
theorem own_sum {h : Hd} (all : Int) (hs : Small (hdr h all 0)) : sumH (hdr h all (sumH (hdr h all 0))) = 0 := by
  have h0 := (tot_bd _ hs).1
  have hb := sumH_bd (hdr h all 0)
  have hf := fin_bd (tot (hdr h all 0))
  rw [sumH, hdr_tot]
  have : fin (tot (hdr h all 0) + sumH (hdr h all 0)) = 65535 := by
    rw [← fin_minus _ _ h0 hb.1 hb.2, sumH, show fin (tot (hdr h all 0)) + (65535 - fin (tot (hdr h all 0))) = 65535 by omega]
    rfl
  omega

theorem hdr_small' {h : Hd} (hh : h.small) (hr : rightB h = true) (all sum : Int) (ha : 0 ≤ all ∧ all ≤ 65535) (hs : 0 ≤ sum ∧ sum ≤ 65535) : Small (hdr h all sum) := by
  have hb := right_bd hr
  refine Small.append ?_ hh.1
  intro x hx
  have h2 := hh.2
  have e0 := h2 h.s0 (by simp); have e1 := h2 h.s1 (by simp); have e2 := h2 h.s2 (by simp); have e3 := h2 h.s3 (by simp)
  have e4 := h2 h.d0 (by simp); have e5 := h2 h.d1 (by simp); have e6 := h2 h.d2 (by simp); have e7 := h2 h.d3 (by simp)
  simp only [List.mem_cons, List.not_mem_nil, or_false] at hx
  omega
theorem hdr_length' (h : Hd) (all sum : Int) : (hdr h all sum).length = 20 + h.opts.length := by simp [hdr]; omega
theorem makes_bd {h : Hd} {p : List Int} (hm : makes h p = true) : rightB h = true ∧ 20 + h.opts.length + p.length ≤ 1500 := by simpa [makes] using hm

section
variable {h : Hd} {p : List Int}
theorem packet_length (h : Hd) (p : List Int) : (packet h p).length = 20 + h.opts.length + p.length := by simp [packet, hdr_length']
theorem packet_small (hh : h.small) (hp : Small p) (hm : makes h p = true) : Small (packet h p) := by
  obtain ⟨hr, hl⟩ := makes_bd hm
  exact (hdr_small' hh hr _ _ (by omega) (sumH_bd _)).append hp
theorem packet_take (h : Hd) (p : List Int) : (packet h p).take (20 + h.opts.length) = hdr h (20 + h.opts.length + p.length) (sumH (hdr h (20 + h.opts.length + p.length) 0)) := by
  rw [packet, List.take_append_of_le_length (by rw [hdr_length']; exact Nat.le_refl _)]
  rw [List.take_of_length_le (by rw [hdr_length']; exact Nat.le_refl _)]
theorem packet_hlen (hm : makes h p = true) : hlen (packet h p) = 20 + h.opts.length := by
  obtain ⟨hr, hl⟩ := makes_bd hm
  have hb := right_bd hr
  have e : at0 (packet h p) 0 = 64 + (20 + (h.opts.length : Int)) / 4 := rfl
  rw [hlen, e]
  omega
theorem packet_fault (hh : h.small) (hm : makes h p = true) : fault (packet h p) = 0 := by
  obtain ⟨hr, hl⟩ := makes_bd hm
  have hb := right_bd hr
  have e0 : at0 (packet h p) 0 = 64 + (20 + (h.opts.length : Int)) / 4 := rfl
  have e2 : at0 (packet h p) 2 = (20 + (h.opts.length : Int) + (p.length : Int)) / 256 := rfl
  have e3 : at0 (packet h p) 3 = (20 + (h.opts.length : Int) + (p.length : Int)) % 256 := rfl
  have hln := packet_length h p
  rw [fault, if_neg (by omega), if_neg (by omega), packet_hlen hm, if_neg (by omega), packet_take, own_sum _ (hdr_small' hh hr _ 0 (by omega) (by omega))]
  simp
theorem packet_head (hm : makes h p = true) : headOf (packet h p) = h := by
  obtain ⟨hr, hl⟩ := makes_bd hm
  have hb := right_bd hr
  have hz := packet_hlen hm
  obtain ⟨tos, id, flags, ttl, proto, s0, s1, s2, s3, d0, d1, d2, d3, opts⟩ := h
  simp only at hb
  unfold headOf
  rw [hz]
  have e1 : id / 256 * 256 + id % 256 = id := by omega
  have e2 : flags / 256 * 256 + flags % 256 = flags := by omega
  have e3 : ((packet ⟨tos, id, flags, ttl, proto, s0, s1, s2, s3, d0, d1, d2, d3, opts⟩ p).drop 20).take (20 + opts.length - 20) = opts := by
    rw [show 20 + opts.length - 20 = opts.length by omega]
    show (opts ++ p).take opts.length = opts
    simp
  simp only [e3]
  show Hd.mk tos (id / 256 * 256 + id % 256) (flags / 256 * 256 + flags % 256) ttl proto s0 s1 s2 s3 d0 d1 d2 d3 opts = _
  rw [e1, e2]
theorem packet_payload (hm : makes h p = true) : (packet h p).drop (hlen (packet h p)) = p := by
  rw [packet_hlen hm, packet, List.drop_append, hdr_length']
  simp [List.drop_eq_nil_of_le, hdr_length']
theorem packet_read (hh : h.small) (hm : makes h p = true) : readHd (packet h p) = h ∧ readPl (packet h p) = p := by
  have hf := packet_fault hh hm
  exact ⟨(if_pos hf).trans (packet_head hm), (if_pos hf).trans (packet_payload hm)⟩
end

/-- One byte of a header is another one: nothing is read, or it still goes from where, and to where, it went. -/
theorem finds {h : Hd} {p : List Int} (hh : h.small) (hp : Small p) (hm : makes h p = true) {j : Nat} {c : Int} (hj : j < (packet h p).length) (hc : 0 ≤ c ∧ c ≤ 255) (hne : at0 (packet h p) j ≠ c) :
    fault ((packet h p).set j c) ≠ 0 ∨ ((headOf ((packet h p).set j c)).s0 = h.s0 ∧ (headOf ((packet h p).set j c)).s1 = h.s1 ∧ (headOf ((packet h p).set j c)).s2 = h.s2 ∧ (headOf ((packet h p).set j c)).s3 = h.s3 ∧
      (headOf ((packet h p).set j c)).d0 = h.d0 ∧ (headOf ((packet h p).set j c)).d1 = h.d1 ∧ (headOf ((packet h p).set j c)).d2 = h.d2 ∧ (headOf ((packet h p).set j c)).d3 = h.d3) := by
  have hg : ∀ k, at0 ((packet h p).set j c) k = if j = k then c else at0 (packet h p) k := fun k => at0_set c k hj
  by_cases hjr : 12 ≤ j ∧ j ≤ 19
  · refine .inl fun hf => ?_
    obtain ⟨hr, hl⟩ := makes_bd hm
    have hz : hlen ((packet h p).set j c) = 20 + h.opts.length := by rw [hlen, hg 0, if_neg (by omega), ← hlen, packet_hlen hm]
    have h54 : sumH (((packet h p).set j c).take (20 + h.opts.length)) = 0 := by
      have hfz := hf
      unfold fault at hfz
      rw [hz] at hfz
      split at hfz
      · cases hfz
      · split at hfz
        · cases hfz
        · split at hfz
          · cases hfz
          · split at hfz
            · cases hfz
            · rename_i hx; exact Classical.not_not.1 hx
    rw [List.take_set, packet_take] at h54
    have hs := hdr_small' hh hr (20 + h.opts.length + p.length) (sumH (hdr h (20 + h.opts.length + p.length) 0)) (by omega) (sumH_bd _)
    have hown := own_sum (h := h) (20 + h.opts.length + p.length) (hdr_small' hh hr _ 0 (by omega) (by omega))
    have hat : at0 (hdr h (20 + h.opts.length + p.length) (sumH (hdr h (20 + h.opts.length + p.length) 0))) j = at0 (packet h p) j := by
      have hjl : j < (hdr h (20 + h.opts.length + p.length) (sumH (hdr h (20 + h.opts.length + p.length) 0))).length := by rw [hdr_length']; omega
      rw [packet]
      simp only [at0, List.getD_eq_getElem?_getD]
      rw [List.getElem?_append_left hjl]
    have hb0 := at0_bd hs j
    rw [hat] at hb0
    have ht := tot_set (hdr h (20 + h.opts.length + p.length) (sumH (hdr h (20 + h.opts.length + p.length) 0))) j c (by rw [hdr_length']; omega)
    rw [hat] at ht
    have hT := tot_bd _ hs
    have hT2 := tot_bd _ (hs.set j c hc)
    generalize hdr h (20 + h.opts.length + p.length) (sumH (hdr h (20 + h.opts.length + p.length) 0)) = L at *
    generalize at0 (packet h p) j = x at *
    unfold sumH fin at h54 hown
    generalize tot (L.set j c) = t2 at *
    split at h54
    · omega
    · split at hown
      · omega
      · have m1 : t2 % 65535 = 0 := by omega
        have m2 : tot L % 65535 = 0 := by omega
        generalize tot L = t1 at *
        have hd : c - x ≠ 0 := by omega
        have hd2 : -255 ≤ c - x ∧ c - x ≤ 255 := by omega
        generalize c - x = d at *
        clear h54 hown hT hT2
        by_cases hp2 : j % 2 = 0
        · rw [if_pos hp2] at ht; omega
        · rw [if_neg hp2] at ht; omega
  · refine .inr ?_
    simp only [headOf, hg]
    rw [if_neg (by omega), if_neg (by omega), if_neg (by omega), if_neg (by omega), if_neg (by omega), if_neg (by omega), if_neg (by omega), if_neg (by omega)]
    exact ⟨rfl, rfl, rfl, rfl, rfl, rfl, rfl, rfl⟩
end Go.Proofs.Ytjembpchgemhnaa.Head
