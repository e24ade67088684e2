/- AlignBehind: when all parts are told of one time, one behind the other, all know it just with the last of them: the walk of the law. No condition. -/
import Derived.Test.YtcnoaflojojfkaaAlign
import Derived.Test.YtcnoaflojojfkaaBits
namespace Go.Proofs.Ytcnoaflojojfkaa.AlignBehind
open Go.RowKit Go.Proofs.Ytcnoaflojojfkaa.Mark Go.Proofs.Ytcnoaflojojfkaa.Align
set_option linter.unusedVariables false
set_option linter.unusedSimpArgs false
set_option maxRecDepth 100000

/-- how many are not told yet -/
def left (ats : List Int) : Nat := ats.countP (· == -1)
/-- the flags, by the marks -/
def flags (ats : List Int) : List Value := (ats.map fun a => Value.bool (a != -1)) ++ List.replicate (8 - ats.length) (.bool false)
theorem flags_get {ats : List Int} {k : Nat} {a : Int} (h : ats[k]? = some a) : (flags ats)[k]? = some (.bool (a != -1)) := by
  have hk : k < ats.length := (List.getElem?_eq_some_iff.1 h).1
  unfold flags
  rw [List.getElem?_append_left (by simpa using hk), List.getElem?_map, h]; rfl
theorem flags_set {ats : List Int} {k : Nat} (hk : k < ats.length) (t : Int) (ht : t ≠ -1) : flags (ats.set k t) = (flags ats).set k (.bool true) := by
  unfold flags
  rw [List.set_append_left _ _ (by simpa using hk), List.map_set, List.length_set]
  have : (t != -1) = true := by simp [ht]
  rw [this]
theorem left_set {ats : List Int} {k : Nat} (h : ats[k]? = some (-1)) (t : Int) (ht : t ≠ -1) : left (ats.set k t) + 1 = left ats := by
  have hk : k < ats.length := (List.getElem?_eq_some_iff.1 h).1
  have he : ats[k] = -1 := (List.getElem?_eq_some_iff.1 h).2
  unfold left
  have h1 : 0 < ats.countP (· == -1) := List.countP_pos_iff.2 ⟨-1, List.mem_of_getElem? h, rfl⟩
  rw [List.countP_set hk]
  simp only [he, beq_self_eq_true, if_true]
  have : (t == -1) = false := by simp [ht]
  rw [this]; simp; omega
/-- all are at -1 or at t -/
def Two (t : Int) (ats : List Int) : Prop := ∀ a ∈ ats, a = -1 ∨ a = t
theorem early_left {t : Int} {ats : List Int} (ht : 0 ≤ t) (hne : ats ≠ []) (h : Two t ats) : earliest ats = if left ats = 0 then t else -1 := by
  obtain ⟨h1, h2⟩ := early_spec ats hne
  by_cases c : left ats = 0
  · rw [if_pos c]
    have hall : ∀ a ∈ ats, a = t := by
      intro a ha
      rcases h a ha with e | e
      · exfalso
        have : 0 < left ats := List.countP_pos_iff.2 ⟨a, ha, by simp [e]⟩
        omega
      · exact e
    exact hall _ h1
  · rw [if_neg c]
    have : 0 < left ats := by omega
    obtain ⟨a, ha, he⟩ := List.countP_pos_iff.1 this
    have := h2 a ha
    have e : a = -1 := by simpa using he
    rcases h _ h1 with e1 | e1
    · exact e1
    · omega
theorem behind_left (ats : List Int) : (behind ats (-1) ats.length).length = left ats := by
  unfold behind left
  rw [List.length_map, ← List.countP_eq_length_filter]
  have key : ∀ n : Nat, n ≤ ats.length → (List.range n).countP (fun j => decide (ats[j]? = some (-1))) = (ats.take n).countP (· == -1) := by
    intro n
    induction n with
    | zero => intro _; simp
    | succ n ih =>
      intro hn
      rw [List.range_succ, List.countP_append, ih (by omega), List.take_add_one, List.countP_append]
      congr 1
      have hg : ats[n]? = some ats[n] := List.getElem?_eq_getElem (by omega)
      rw [hg]
      simp only [Option.toList, List.countP_singleton]
      by_cases e : ats[n] = -1
      · simp [hg, e]
      · simp [hg, e]
  have := key ats.length (Nat.le_refl _)
  rwa [List.take_of_length_le (Nat.le_refl _)] at this

/-- what holds at the head of each round: the align at p, q; the flags at r -/
structure Inv (w : World) (n p q r : Nat) (t : Int) (ats : List Int) (wr : World) : Prop where
  al : Al wr p q ats
  flag : Blk wr r (flags ats) 81
  two : Two t ats
  len : ats.length = n
  fr : Fr [] w wr
  big : w.heap.size ≤ p ∧ w.heap.size ≤ q ∧ w.heap.size ≤ r
  ne : r ≠ p ∧ r ≠ q
theorem Inv.fr0 {w : World} {n p q r : Nat} {t : Int} {ats : List Int} {wr wx : World} (h : Inv w n p q r t ats wr) (hf : Fr [] wr wx) : Inv w n p q r t ats wx :=
  ⟨h.al.fr hf (by simp) (by simp), h.flag.fr hf (by simp), h.two, h.len, h.fr.trans0 hf, h.big, h.ne⟩

set_option maxHeartbeats 4000000 in
theorem walk (parts : Int) (_wp : (Lit.int .i64 parts).wf = true) (t0 : Int) (_wt : (Lit.int .i64 t0).wf = true) (zs : List Int) (v2 : Value) {w : World} (hr2 : Reads w 1 v2 zs.length (zs.map (Value.int .i64))) (_hwf : ∀ x ∈ zs, (Lit.int .i64 x).wf = true) (hlen : zs.length * 8 ≤ 140737488351232) :
    Calls Try.prog 12 #[.int .i64 parts, .int .i64 t0, v2] w fun e w' => e = .returned (.bool true) ∧ Fr [] w w' := by
  obtain ⟨hl1, a2, c2, rfl, hc2, hcell⟩ := id hr2
  clear hl1
  have HR := Lib.hid hr2
  clear hcell hr2 _wp _wt _hwf
  obtain ⟨n, hn⟩ : ∃ n : Nat, (n : Int) = parts % 8 + 1 := ⟨(parts % 8 + 1).toNat, by omega⟩
  obtain ⟨t, ht⟩ : ∃ t : Nat, (t : Int) = t0 % 65536 := ⟨(t0 % 65536).toNat, by omega⟩
  have hn8 : 1 ≤ n ∧ n ≤ 8 := by omega
  have ht16 : t < 65536 := by omega
  have HN := Lib.hid hn
  have HT := Lib.hid ht
  clear hn ht
  go_enter Try.func12, Try.ntmps12
  go_upto_region 1 with (fail)
  go_cut [7] (fun v7 wc => v7 = .int .i64 n ∧ w = wc)
  case first =>
    go_wp2_with fail
    go_meet
    case rel => exact ⟨congrArg (Value.int .i64) (by rw [and7, wrap64_small (by omega) (by omega)]; exact HN.out.symm), rfl⟩
  case rest =>
    obtain ⟨rfl, rfl⟩ := hcut
    go_wp2_with fail
    refine (new_any n n (by omega) _).mono ?_
    rintro e w1 ⟨rfl, R1, F1⟩
    obtain ⟨p, hp⟩ : ∃ p, p = w.heap.size + 1 := ⟨_, rfl⟩
    obtain ⟨q, hq⟩ : ∃ q, q = w.heap.size := ⟨_, rfl⟩
    rw [← hp, ← hq] at R1
    rw [← hp]
    have HP : Hid (w.heap.size ≤ p ∧ w.heap.size ≤ q ∧ p < w1.heap.size ∧ q < w1.heap.size) := ⟨by omega, by omega, R1.top.lt, R1.row.lt⟩
    clear hp hq
    have RIN := Lib.hid R1
    have FIN := Lib.hid F1
    clear F1 R1
    go_wp2_with fail
    rw [show bits .and .i64 t0 65535 = (t : Int) from by rw [and65535]; exact HT.out.symm]
    go_loopw [11, 12] (fun v11 v12 wr => ∃ (i : Nat) (ats : List Int), i ≤ zs.length ∧ i ≤ 40 ∧ v12 = .int .i64 i ∧ v11 = .int .i64 (left ats) ∧ Inv w n p q w1.heap.size t ats wr) (fun _ v12 _ => zs.length - (intOf v12).toNat)
    case atStart =>
      refine ⟨0, List.replicate n (-1), by omega, by omega, rfl, ?_, ?_⟩
      · have : left (List.replicate n (-1)) = n := by unfold left; rw [List.countP_replicate]; rfl
        rw [this]
      · refine ⟨RIN.out.fr ((Fr.refl [] _).alloc _) (by simp) (by simp), ?_, fun a ha => .inl (List.eq_of_mem_replicate ha), by simp, FIN.out.alloc _, ⟨HP.out.1, HP.out.2.1, FIN.out.size⟩, ?_⟩
        · have h8 : flags (List.replicate n (-1)) = List.replicate 8 (.bool false) := by
            unfold flags
            rw [List.map_replicate, List.length_replicate]
            show List.replicate n (Value.bool false) ++ _ = _
            rw [List.replicate_append_replicate]; congr 1; omega
          rw [h8]; exact Blk.new w1 (List.replicate 8 (.bool false)) _
        · have := HP.out; omega
    case round =>
      obtain ⟨i, ats, hi, h40, rfl, rfl, hI⟩ := hrel
      have HI := Lib.hid hI
      clear hI
      by_cases hlt : i < zs.length ∧ i < 40
      · obtain ⟨hlt, hlt40⟩ := hlt
        have hc8 : decide ((i : Int) < 40) = true := decide_eq_true (by omega)
        obtain ⟨z, hz⟩ : ∃ z, zs[i]? = some z := ⟨zs[i], by simp [hlt]⟩
        obtain ⟨b1, o1, rfl, hcl⟩ : ∃ b o, a2 = some ⟨b, o, none⟩ ∧ wr.cell? ⟨b, o + i, none⟩ = some (.int .i64 z) := by
          have hR := HR.out.fr0 HI.out.fr
          obtain ⟨_, a, c, h1, _, h | ⟨b, o, h2, h⟩⟩ := hR
          · rw [List.map_eq_nil_iff] at h; rw [h] at hlt; simp at hlt
          · simp at h1
            exact ⟨b, o, by rw [h1.1, h2], h i _ (by simp [hz])⟩
        clear hz
        obtain ⟨k, hk⟩ : ∃ k : Nat, (k : Int) = (z % 256) % n := ⟨((z % 256) % n).toNat, by have := Int.emod_nonneg (z % 256) (b := n) (by omega); omega⟩
        have hkn : k < n := by have := Int.emod_lt_of_pos (z % 256) (b := n) (by omega); omega
        have HK := Lib.hid hk
        clear hk
        have hn0 : ¬ n = 0 := by omega
        have hm0 : 0 ≤ z % 256 := by omega
        go_upto_region 7 with (fail)
        go_cut [13] (fun v13 wc => v13 = .int .i64 k ∧ wr = wc)
        case first =>
          have hb : bits .and .i64 z 255 = z % 256 := and255 z
          go_wp2_with fail
          go_meet
          case rel => exact ⟨congrArg (Value.int .i64) HK.out.symm, rfl⟩
        case rest =>
          obtain ⟨rfl, rfl⟩ := hcut
          obtain ⟨a, ha⟩ : ∃ a, ats[k]? = some a := ⟨ats[k]'(by rw [HI.out.len]; exact hkn), List.getElem?_eq_getElem _⟩
          have hck : wr.cell? ⟨w1.heap.size, k, none⟩ = some (.bool (a != -1)) := HI.out.flag.cell_at (flags_get ha)
          have hfk := HI.out.flag.thawed
          have HA := Lib.hid ha
          have HTO := Lib.hid (to_in p q ats k a t wr HI.out.al ha)
          have h2 := HI.out.two a (List.mem_of_getElem? ha)
          clear ha
          by_cases hold : a = -1
          · have hold' : (a != -1) = false := by rw [hold]; rfl
            have e1 : toMark a t = ((t : Int), 0) := by
              rw [hold]; unfold toMark; rw [if_neg (by omega), if_neg (by omega)]
            have hlb : left ats ≤ 8 := by have h1 : left ats ≤ ats.length := List.countP_le_length; have := HI.out.len; omega
            have hls := left_set (hold ▸ HA.out) t (by omega)
            have hfs := flags_set (ats := ats) (k := k) (by rw [HI.out.len]; exact hkn) t (by omega)
            rw [hold'] at hck
            clear hold h2 HTO
            go_upto_region 13 with (fail)
            obtain ⟨w2, hw2⟩ : ∃ x : World, x = wr.setCell ⟨w1.heap.size, k, none⟩ (.bool true) := ⟨_, rfl⟩
            rw [← hw2]
            have HF2 : Hid (Fr [w1.heap.size] wr w2) := by rw [hw2]; exact (Fr.refl _ _).set (by simp) _
            have HB2 : Hid (Blk w2 w1.heap.size (flags (ats.set k t)) 81) := by rw [hw2, hfs]; exact HI.out.flag.set k _
            have HA2 : Hid (Al w2 p q ats) := HI.out.al.fr HF2.out (by have := HI.out.ne; simp; omega) (by have := HI.out.ne; simp; omega)
            have HTO := Lib.hid (to_in p q ats k a t w2 HA2.out HA.out)
            rw [e1] at HTO
            obtain ⟨ats', hats⟩ : ∃ l, ats.set k (t : Int) = l := ⟨_, rfl⟩
            have e3 : ats.set k ((t : Int), (0 : Int)).1 = ats' := hats
            rw [e3] at HTO
            have hlen' : ats'.length = n := by rw [← hats, List.length_set]; exact HI.out.len
            have htwo' : Two t ats' := by
              intro x hx; rw [← hats] at hx
              rcases List.mem_or_eq_of_mem_set hx with hx | rfl
              · exact HI.out.two x hx
              · exact .inr rfl
            have ATSNE : ats' ≠ [] := by intro h; rw [h] at hlen'; simp at hlen'; omega
            rw [hats] at hls HB2
            rw [show ((left ats : Nat) : Int) - 1 = ((left ats' : Nat) : Int) by omega]
            have HW := Lib.hid (And.intro hlen' htwo')
            clear hw2 e1 e3 hold' hck hfk hls hfs hats hlen' htwo' hcl
            go_wp2_with fail
            refine HTO.out.mono ?_
            rintro e w3 ⟨rfl, hA3, hF3⟩
            have HI3 : Hid (Inv w n p q w1.heap.size t ats' w3) := ⟨hA3, HB2.out.fr hF3 (by have := HI.out.ne; simp; omega), HW.out.2, HW.out.1, (HI.out.fr.trans HF2.out (fun b hb => by have := HI.out.big; simp at hb; right; omega)).trans hF3 (fun b hb => by have := HI.out.big; simp at hb; right; omega), HI.out.big, HI.out.ne⟩
            clear hA3 hF3 HTO
            have he := early_left (by omega) ATSNE HI3.out.two
            by_cases h0 : left ats' = 0
            · have HALL : Hid (∀ W, Al W p q ats' → Calls Try.prog 58 #[.pointer (some ⟨p, 0, none⟩)] W fun e w' => e = .returned (.int .i64 t) ∧ Fr [] W w') := fun W hW => by
                rw [if_pos h0] at he; rw [← he]; exact at_all p q ats' W hW
              have hl0 : ((left ats' : Nat) : Int) = 0 := by omega
              rw [hl0]
              clear he hl0
              have H0 := Lib.hid h0
              clear h0
              go_wp2_with fail
              refine (HALL.out _ HI3.out.al).mono ?_
              rintro e w4 ⟨rfl, hF4⟩
              have HI4 := Lib.hid (HI3.out.fr0 hF4)
              clear hF4
              go_wp2_with fail
              go_roundw
              case rel => exact ⟨i + 1, ats', by omega, by omega, by go_num, by rw [H0.out]; rfl, HI4.out⟩
              case measure => simp [intOf]; omega
            · have HALL : Hid (∀ W, Al W p q ats' → Calls Try.prog 58 #[.pointer (some ⟨p, 0, none⟩)] W fun e w' => e = .returned (.int .i64 (-1)) ∧ Fr [] W w') := fun W hW => by
                rw [if_neg h0] at he; rw [← he]; exact at_all p q ats' W hW
              have HBEH : Hid (∀ W, Al W p q ats' → Calls Try.prog 56 #[.pointer (some ⟨p, 0, none⟩)] W fun e w' => ∃ a c, e = .returned (.slice a (left ats') c) ∧ Fr [] W w') := fun W hW => by
                rw [if_neg h0] at he
                have h := behind_any p q ats' W hW
                rw [he, behind_left] at h
                exact h.mono fun e w' ⟨a, c, h1, _, h2⟩ => ⟨a, c, h1, h2⟩
              have hl0 : 0 < left ats' := by omega
              have hlz : (((left ats' : Nat) : Int) == 0) = false := by rw [beq_eq_false_iff_ne]; omega
              have hlp : decide ((0 : Int) < ((left ats' : Nat) : Int)) = true := decide_eq_true (by omega)
              have htz : ((-1 : Int) == (t : Int)) = false := by rw [beq_eq_false_iff_ne]; omega
              clear he h0
              obtain ⟨lf, hlf⟩ : ∃ lf, left ats' = lf := ⟨_, rfl⟩
              rw [hlf] at HBEH hlz hlp hl0
              rw [hlf]
              have HLF := Lib.hid hlf
              clear hlf
              go_wp2_with fail
              refine (HALL.out _ HI3.out.al).mono ?_
              rintro e w4 ⟨rfl, hF4⟩
              have HI4 := Lib.hid (HI3.out.fr0 hF4)
              clear hF4
              go_wp2_with fail
              refine (HBEH.out _ HI4.out.al).mono ?_
              rintro e w5 ⟨a5, c5, rfl, hF5⟩
              have HI5 := Lib.hid (HI4.out.fr0 hF5)
              clear hF5
              go_wp2_with fail
              go_roundw
              case rel => exact ⟨i + 1, ats', by omega, by omega, by go_num, by rw [HLF.out], HI5.out⟩
              case measure => simp [intOf]; omega
          · obtain rfl : a = t := by omega
            have hold' : ((t : Int) != -1) = true := by rw [bne_iff_ne]; omega
            have e1 : toMark t t = ((t : Int), 7) := by unfold toMark; rw [if_neg (by omega), if_pos (by omega)]
            have e2 : ats.set k (t : Int) = ats := set_self HA.out
            rw [e1, e2] at HTO
            rw [hold'] at hck
            clear e1 e2 hold hold' h2
            have ATSNE : ats ≠ [] := by intro h; have := HI.out.len; rw [h] at this; simp at this; omega
            go_upto_region 13 with (fail)
            go_wp2_with fail
            refine HTO.out.mono ?_
            rintro e w3 ⟨rfl, hA3, hF3⟩
            have HI3 : Hid (Inv w n p q w1.heap.size t ats w3) := ⟨hA3, HI.out.flag.fr hF3 (by have := HI.out.ne; simp; omega), HI.out.two, HI.out.len, HI.out.fr.trans hF3 (fun b hb => by have := HI.out.big; simp at hb; right; omega), HI.out.big, HI.out.ne⟩
            clear hA3 hF3 HTO
            have he := early_left (by omega) ATSNE HI3.out.two
            by_cases h0 : left ats = 0
            · have HALL : Hid (∀ W, Al W p q ats → Calls Try.prog 58 #[.pointer (some ⟨p, 0, none⟩)] W fun e w' => e = .returned (.int .i64 t) ∧ Fr [] W w') := fun W hW => by
                rw [if_pos h0] at he; rw [← he]; exact at_all p q ats W hW
              have hl0 : ((left ats : Nat) : Int) = 0 := by omega
              rw [hl0]
              clear he hl0
              have H0 := Lib.hid h0
              clear h0
              go_wp2_with fail
              refine (HALL.out _ HI3.out.al).mono ?_
              rintro e w4 ⟨rfl, hF4⟩
              have HI4 := Lib.hid (HI3.out.fr0 hF4)
              clear hF4
              go_wp2_with fail
              go_roundw
              case rel => exact ⟨i + 1, ats, by omega, by omega, by go_num, by rw [H0.out]; rfl, HI4.out⟩
              case measure => simp [intOf]; omega
            · have HALL : Hid (∀ W, Al W p q ats → Calls Try.prog 58 #[.pointer (some ⟨p, 0, none⟩)] W fun e w' => e = .returned (.int .i64 (-1)) ∧ Fr [] W w') := fun W hW => by
                rw [if_neg h0] at he; rw [← he]; exact at_all p q ats W hW
              have HBEH : Hid (∀ W, Al W p q ats → Calls Try.prog 56 #[.pointer (some ⟨p, 0, none⟩)] W fun e w' => ∃ a c, e = .returned (.slice a (left ats) c) ∧ Fr [] W w') := fun W hW => by
                rw [if_neg h0] at he
                have h := behind_any p q ats W hW
                rw [he, behind_left] at h
                exact h.mono fun e w' ⟨a, c, h1, _, h2⟩ => ⟨a, c, h1, h2⟩
              have hl0 : 0 < left ats := by omega
              have hlz : (((left ats : Nat) : Int) == 0) = false := by rw [beq_eq_false_iff_ne]; omega
              have hlp : decide ((0 : Int) < ((left ats : Nat) : Int)) = true := decide_eq_true (by omega)
              have htz : ((-1 : Int) == (t : Int)) = false := by rw [beq_eq_false_iff_ne]; omega
              clear he h0
              obtain ⟨lf, hlf⟩ : ∃ lf, left ats = lf := ⟨_, rfl⟩
              rw [hlf] at HBEH hlz hlp hl0
              rw [hlf]
              have HLF := Lib.hid hlf
              clear hlf
              go_wp2_with fail
              refine (HALL.out _ HI3.out.al).mono ?_
              rintro e w4 ⟨rfl, hF4⟩
              have HI4 := Lib.hid (HI3.out.fr0 hF4)
              clear hF4
              go_wp2_with fail
              refine (HBEH.out _ HI4.out.al).mono ?_
              rintro e w5 ⟨a5, c5, rfl, hF5⟩
              have HI5 := Lib.hid (HI4.out.fr0 hF5)
              clear hF5
              go_wp2_with fail
              go_roundw
              case rel => exact ⟨i + 1, ats, by omega, by omega, by go_num, by rw [HLF.out], HI5.out⟩
              case measure => simp [intOf]; omega
      · by_cases hi2 : i < zs.length
        · have hc8 : decide ((i : Int) < 40) = false := decide_eq_false (by omega)
          clear hlt
          go_wp2_with fail
          refine (awake_any _).mono ?_
          rintro e w2 ⟨rfl, hF2⟩
          go_wp2
          go_ret
          exact ⟨rfl, HI.out.fr.trans0 hF2⟩
        · clear hlt
          go_wp2_with fail
          refine (awake_any _).mono ?_
          rintro e w2 ⟨rfl, hF2⟩
          go_wp2
          go_ret
          exact ⟨rfl, HI.out.fr.trans0 hF2⟩
end Go.Proofs.Ytcnoaflojojfkaa.AlignBehind
