/- Chains of numbers in memory: what each function of pers does, and what a loop over a chain is handed. No condition. -/
import Derived.Test.YtcnoaflojojfkaaRange
import Derived.Test.YtcnoaflojojfkaaPersSame
namespace Go.Proofs.Ytcnoaflojojfkaa.Pers
open Go.RowKit Go.Shelf
set_option linter.unusedVariables false
set_option linter.unusedSimpArgs false
set_option maxRecDepth 100000
attribute [local go_sem] Oper.semAt_some

/-- a chain in memory, the newest first; its blocks lie from lo on, below hi -/
def IsCh (lo hi : Nat) (w : World) : List Int → Option Addr → Prop
  | [], p => p = none
  | x :: r, p => ∃ b q, p = some ⟨b, 0, none⟩ ∧ lo ≤ b ∧ b < hi ∧ Blk w b [.int .i64 x, .pointer q, .int .i64 (r.length + 1 : Nat)] 115 ∧ IsCh lo hi w r q

theorem IsCh.keep {lo hi : Nat} {w w1 : World} : ∀ {xs : List Int} {p : Option Addr}, IsCh lo hi w xs p → (∀ k, lo ≤ k → k < hi → k < w.heap.size → w1.heap[k]? = w.heap[k]?) → IsCh lo hi w1 xs p
  | [], _, h, _ => h
  | _ :: _, _, ⟨b, q, hp, h1, h2, hb, hr⟩, hk => ⟨b, q, hp, h1, h2, hb.of_eq (hk b h1 h2 hb.lt), IsCh.keep hr hk⟩
theorem IsCh.fr0 {lo hi : Nat} {w w1 : World} {xs : List Int} {p : Option Addr} (h : IsCh lo hi w xs p) (hf : Fr [] w w1) : IsCh lo hi w1 xs p :=
  h.keep fun k _ _ hk => hf.block k hk (by simp)
theorem IsCh.wide {lo hi lo' hi' : Nat} {w : World} : ∀ {xs : List Int} {p : Option Addr}, IsCh lo hi w xs p → lo' ≤ lo → hi ≤ hi' → IsCh lo' hi' w xs p
  | [], _, h, _, _ => h
  | _ :: _, _, ⟨b, q, hp, h1, h2, hb, hr⟩, hl, hh => ⟨b, q, hp, by omega, by omega, hb, IsCh.wide hr hl hh⟩
/-- how long a chain is, read off the memory -/
def mu (w : World) : Value → Nat
  | .pointer (some a) => match w.cell? ⟨a.block, 2, none⟩ with | some (.int _ n) => n.toNat | _ => 0
  | _ => 0
theorem IsCh.mu {lo hi : Nat} {w : World} {xs : List Int} {p : Option Addr} (h : IsCh lo hi w xs p) : Pers.mu w (.pointer p) = xs.length := by
  cases xs with
  | nil => have : p = none := h; subst this; rfl
  | cons x r =>
    obtain ⟨b, q, rfl, _, _, hb, _⟩ := h
    have := hb.cell_at (o := 2) rfl
    simp only [Pers.mu, this]
    simp

theorem len_any (lo hi : Nat) (xs : List Int) (p : Option Addr) (w : World) (h : IsCh lo hi w xs p) :
    Calls Try.prog 37 #[.pointer p] w fun e w' => e = .returned (.int .i64 xs.length) ∧ w = w' := by
  cases xs with
  | nil =>
    have : p = none := h
    subst this
    go_enter Try.func37, Try.ntmps37
    go_wp2
    go_ret
    exact ⟨rfl, rfl⟩
  | cons x r =>
    obtain ⟨b, q, rfl, _, _, hb, _⟩ := h
    have h2 := hb.cell_at (o := 2) rfl
    clear hb
    rw [List.length_cons]
    generalize r.length + 1 = n at h2 ⊢
    go_enter Try.func37, Try.ntmps37
    go_wp2
    go_ret
    exact ⟨rfl, rfl⟩
theorem with_any (lo hi : Nat) (xs : List Int) (p : Option Addr) (x : Int) (w : World) (h : IsCh lo hi w xs p) (hlo : lo ≤ w.heap.size) (hhi : hi ≤ w.heap.size) (hn : xs.length ≤ 1000000) :
    Calls Try.prog 34 #[.pointer p, .int .i64 x] w fun e w' => e = .returned (.pointer (some ⟨w.heap.size, 0, none⟩)) ∧
      IsCh lo w'.heap.size w' (x :: xs) (some ⟨w.heap.size, 0, none⟩) ∧ Fr [] w w' := by
  have fin : ∀ W : World, W = w.alloc (.cells #[.int .i64 x, .pointer p, .int .i64 (xs.length + 1 : Nat)] 115) → IsCh lo W.heap.size W (x :: xs) (some ⟨w.heap.size, 0, none⟩) ∧ Fr [] w W := by
    intro W hW
    have F : Fr [] w W := by rw [hW]; exact (Fr.refl _ _).alloc _
    have hs : W.heap.size = w.heap.size + 1 := by rw [hW]; simp
    exact ⟨⟨w.heap.size, p, rfl, hlo, by omega, by rw [hW]; exact Blk.new w _ _, (h.fr0 F).wide (Nat.le_refl _) (by omega)⟩, F⟩
  have FIN := Lib.hid fin
  have H := Lib.hid h
  clear fin h
  go_enter Try.func34, Try.ntmps34
  go_wp2_with (first | (go_at_call 37; refine (len_any lo hi xs p _ H.out).mono ?_; rintro e w' ⟨rfl, rfl⟩))
  go_ret
  exact ⟨rfl, FIN.out _ (by simp)⟩
theorem newest_none (w : World) :
    Calls Try.prog 39 #[.pointer none] w fun e w' => e = .returned (.tuple #[.int .i64 0, .bool false]) ∧ w = w' := by
  go_enter Try.func39, Try.ntmps39
  go_wp2_with (first | (go_at_call 37; refine (len_any 0 0 [] none _ rfl).mono ?_; rintro e w' ⟨rfl, rfl⟩))
  go_ret2
  exact ⟨rfl, rfl⟩
theorem newest_some (lo hi : Nat) (x : Int) (xs : List Int) (p : Option Addr) (w : World) (h : IsCh lo hi w (x :: xs) p) :
    Calls Try.prog 39 #[.pointer p] w fun e w' => e = .returned (.tuple #[.int .i64 x, .bool true]) ∧ w = w' := by
  obtain ⟨b, q, rfl, _, _, hb, _⟩ := id h
  have h0 := hb.cell_at (o := 0) rfl
  have H := Lib.hid h
  have hz : (((xs.length + 1 : Nat) : Int) == 0) = false := by rw [beq_eq_false_iff_ne]; omega
  clear h hb
  go_enter Try.func39, Try.ntmps39
  go_wp2_with (first | (go_at_call 37; refine (len_any lo hi (x :: xs) _ _ H.out).mono ?_; rintro e w' ⟨rfl, rfl⟩))
  go_ret2
  exact ⟨rfl, rfl⟩
theorem rest_any (lo hi : Nat) (xs : List Int) (p : Option Addr) (w : World) (h : IsCh lo hi w xs p) :
    Calls Try.prog 40 #[.pointer p] w fun e w' => (∃ q, e = .returned (.pointer q) ∧ IsCh lo hi w xs.tail q) ∧ w = w' := by
  cases xs with
  | nil =>
    have : p = none := h
    subst this
    clear h
    go_enter Try.func40, Try.ntmps40
    go_wp2_with (first | (go_at_call 37; refine (len_any 0 0 [] none _ rfl).mono ?_; rintro e w' ⟨rfl, rfl⟩))
    go_ret
    exact ⟨⟨_, rfl, rfl⟩, rfl⟩
  | cons x r =>
    obtain ⟨b, q, rfl, _, _, hb, hr⟩ := id h
    have h1 := hb.cell_at (o := 1) rfl
    have H := Lib.hid h
    have HR := Lib.hid hr
    have hz : (((r.length + 1 : Nat) : Int) == 0) = false := by rw [beq_eq_false_iff_ne]; omega
    clear h hb hr
    go_enter Try.func40, Try.ntmps40
    go_wp2_with (first | (go_at_call 37; refine (len_any lo hi (x :: r) _ _ H.out).mono ?_; rintro e w' ⟨rfl, rfl⟩))
    go_ret
    exact ⟨⟨_, rfl, HR.out⟩, rfl⟩
theorem back_any (p : Option Addr) (w : World) : Calls Try.prog 38 #[.pointer p] w fun e w' =>
    e = .returned (.func (.func 79) #[] #[.pointer (some ⟨w.heap.size, 0, none⟩)]) ∧ w' = w.alloc (.cells #[.pointer p] 56) := by
  go_enter Try.func38, Try.ntmps38
  go_wp2
  go_ret
  exact ⟨rfl, rfl⟩

set_option maxHeartbeats 2000000 in
theorem back_stops (lo hi B H : Nat) (St : List Nat) (xs : List Int) (p : Option Addr) (w : World) (h : IsCh lo hi w xs p) (hB : Blk w B [.pointer p] 56)
    (hH : hi ≤ H) (hSt : ∀ b ∈ St, b < lo ∨ hi ≤ b) (hBH : B < H ∧ B ∉ St) :
    SeqStopsK Fence.wide 8 Try.prog 79 #[.pointer (some ⟨B, 0, none⟩)] (fun x : Int => #[.int .i64 x]) (Kept H St)
      (fun ys => ys = xs) (fun pre => pre <+: xs) xs.length w := by
  intro l J Jx W hW hJ hJx hY h0
  have hR0 : IsCh lo hi W xs p := h.keep fun k _ _ hk => hW.block k hk
  have hB0 : Blk W B [.pointer p] 56 := (hW.block B hB.lt).trans hB
  clear h hB hW
  have hY := Lib.hid hY
  have HR0 := Lib.hid hR0
  have qB := hB0.cell_at (o := 0) rfl
  have HSt : Hid (∀ b ∈ St, b < lo ∨ hi ≤ b) := hSt
  have HH : Hid (hi ≤ H) := hH
  clear hR0 hB0 hSt hH
  refine callsIn_of_wp Try.func79 rfl trivial ?_ rfl
  simp only [Try.ntmps79, List.size_toArray, List.length_cons, List.length_nil, Nat.reduceAdd, Nat.reduceSub, Array.replicate_succ, Array.replicate_zero, List.push_toArray, List.append_toArray, List.nil_append, List.cons_append]
  refine wpIn_wide.2 ?_
  go_wp2_with fail
  go_loopw [3] (fun v wr => ∃ (pre rest : List Int) (q : Option Addr), v = .pointer q ∧ xs = pre ++ rest ∧ IsCh lo hi wr rest q ∧ Kept H St W wr ∧ J pre wr) (fun v wr => mu wr v)
  case atStart => exact ⟨[], xs, p, rfl, rfl, HR0.out, Kept.refl _ _ _, h0⟩
  case round =>
    obtain ⟨pre, rest, q, rfl, hx, hc, hK, hJs⟩ := hrel
    have HX := Lib.hid hx
    have HC := Lib.hid hc
    have HK := Lib.hid hK
    have HJs := Lib.hid hJs
    clear hx hc hK hJs
    cases rest with
    | nil =>
      go_wp2_with (first | (go_at_call 37; refine (len_any lo hi [] q _ HC.out).mono ?_; rintro e w' ⟨rfl, rfl⟩))
      go_end0
      exact ⟨⟨_, rfl⟩, .inl ⟨_, by rw [HX.out, List.append_nil], HJs.out⟩⟩
    | cons x r =>
      obtain ⟨b, q', rfl, hb1, hb2, hb, hr⟩ := HC.out
      have c0 := hb.cell_at (o := 0) rfl
      have HBb := Lib.hid hb
      have HR := Lib.hid hr
      have hz : decide ((0 : Int) < ((r.length + 1 : Nat) : Int)) = true := decide_eq_true (by omega)
      have HLN : Hid (pre.length < xs.length) := by have := HX.out; rw [this]; simp [Hid]
      clear hb hr
      obtain ⟨fn, tmps, assign, body, hy, hR⟩ := hY.out _ x wr HJs.out HLN.out
      have HRd := Lib.hid (hR.mono (R' := fun e W' => ∃ bb : Bool, e = .returned (.bool bb) ∧ ((bb = true ∧ J (pre ++ [x]) W' ∧ Kept H St wr W') ∨ (bb = false ∧ Jx (pre ++ [x]) W')))
        (fun e W' h => by
          rcases h with ⟨rfl, h1, h2⟩ | ⟨rfl, h1⟩
          · exact ⟨true, rfl, .inl ⟨rfl, h1, h2⟩⟩
          · exact ⟨false, rfl, .inr ⟨rfl, h1⟩⟩))
      clear hR
      go_upto_region 3 with (first | (go_at_call 37; refine (len_any lo hi (x :: r) _ _ HC.out).mono ?_; rintro e w' ⟨rfl, rfl⟩))
      refine (wpIn_wide (n := 8)).1 ?_
      gi_wp2
      refine HRd.out.mono ?_
      rintro e W' ⟨bb, rfl, hh⟩
      have HHh := Lib.hid hh
      clear hh
      gi_wp2
      rcases HHh.out with ⟨rfl, hJ', hK'⟩ | ⟨rfl, hJx'⟩
      · have HJ' := Lib.hid hJ'
        have HK' := Lib.hid (HK.out.trans hK')
        have keepk : ∀ k, lo ≤ k → k < hi → k < wr.heap.size → W'.heap[k]? = wr.heap[k]? := fun k h1 h2 h3 => hK'.block k (by have := HH.out; omega) h3 (fun hm => by have := HSt.out k hm; omega)
        have HB' : Hid (Blk W' b [.int .i64 x, .pointer q', .int .i64 (r.length + 1 : Nat)] 115) := HBb.out.of_eq (keepk b hb1 hb2 HBb.out.lt)
        have HR' : Hid (IsCh lo hi W' r q') := HR.out.keep keepk
        have c1 := HB'.out.cell_at (o := 1) rfl
        have HMU : Hid (mu W' (.pointer q') < mu wr (.pointer (some ⟨b, 0, none⟩))) := by
          have e1 := HR'.out.mu
          have e2 := IsCh.mu (xs := x :: r) HC.out
          rw [Hid, e1, e2]; simp
        clear hJ' hK' HHh HRd hy keepk c0
        go_wp2
        go_roundw
        case rel => exact ⟨pre ++ [x], r, q', rfl, by rw [HX.out, List.append_assoc]; rfl, HR'.out, HK'.out, HJ'.out⟩
        case measure => exact HMU.out
      · have HJx' := Lib.hid hJx'
        clear hJx' HHh HRd hy
        go_wp2
        refine bodyPost_ret (results_none rfl _ _ _) rfl ?_
        exact ⟨⟨_, rfl⟩, .inr ⟨_, ⟨r, by rw [HX.out, List.append_assoc]; rfl⟩, HJx'.out⟩⟩
end Go.Proofs.Ytcnoaflojojfkaa.Pers
