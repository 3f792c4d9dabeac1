/-
  The sum of bytes (a register of 32 bits), frames, and what lies in a log: plain words and laws, no program.
-/
import Derived.WalkKit
namespace Go.Proofs.Ytclbapmjhchokaa

/-- A register behind one bit. -/
def cs (x : Nat) : Nat := if x % 2 = 1 then (x / 2) ^^^ 3988292384 else x / 2
def csN : Nat → Nat → Nat
  | 0, x => x
  | k + 1, x => cs (csN k x)
def crcB (x : Nat) (b : UInt8) : Nat := csN 8 (x ^^^ b.toNat)
def crcL (x : Nat) (l : List UInt8) : Nat := l.foldl crcB x
def crc (l : List UInt8) : Nat := 4294967295 - crcL 4294967295 l

theorem xor_div2 (a b : Nat) : (a ^^^ b) / 2 = a / 2 ^^^ b / 2 := by
  have := Nat.shiftRight_xor_distrib (a := a) (b := b) (i := 1)
  simpa [Nat.shiftRight_succ] using this
theorem xor_mod2 (a b : Nat) : (a ^^^ b) % 2 = (a % 2 + b % 2) % 2 := by
  have h := Nat.testBit_xor a b 0
  simp only [Nat.testBit_zero] at h
  rcases Nat.mod_two_eq_zero_or_one a with ha | ha <;> rcases Nat.mod_two_eq_zero_or_one b with hb | hb <;> rcases Nat.mod_two_eq_zero_or_one (a ^^^ b) with hc | hc <;> simp_all
theorem cs_xor (a b : Nat) : cs (a ^^^ b) = cs a ^^^ cs b := by
  unfold cs
  rw [xor_mod2, xor_div2]
  rcases Nat.mod_two_eq_zero_or_one a with ha | ha <;> rcases Nat.mod_two_eq_zero_or_one b with hb | hb <;> simp only [ha, hb]
  · simp
  · simp [Nat.xor_assoc]
  · simp only [if_true, Nat.zero_ne_one, if_false]
    rw [Nat.xor_assoc, Nat.xor_assoc, Nat.xor_comm (b / 2)]
  · simp only [Nat.reduceAdd, Nat.reduceMod, if_true, Nat.zero_ne_one, if_false]
    rw [show (a / 2 ^^^ 3988292384) ^^^ (b / 2 ^^^ 3988292384) = (a / 2 ^^^ b / 2) ^^^ (3988292384 ^^^ 3988292384) from by
      rw [Nat.xor_assoc, Nat.xor_assoc, ← Nat.xor_assoc 3988292384, Nat.xor_comm 3988292384 (b / 2), Nat.xor_assoc]]
    simp
theorem csN_xor (k a b : Nat) : csN k (a ^^^ b) = csN k a ^^^ csN k b := by
  induction k with
  | zero => rfl
  | succ k ih => simp only [csN]; rw [ih, cs_xor]
theorem cs_even (x : Nat) (h : x % 2 = 0) : cs x = x / 2 := by unfold cs; rw [if_neg (by omega)]
theorem csN_high (h : Nat) : csN 8 (256 * h) = h := by
  have e1 : cs (256 * h) = 128 * h := by rw [cs_even _ (by omega)]; omega
  have e2 : cs (128 * h) = 64 * h := by rw [cs_even _ (by omega)]; omega
  have e3 : cs (64 * h) = 32 * h := by rw [cs_even _ (by omega)]; omega
  have e4 : cs (32 * h) = 16 * h := by rw [cs_even _ (by omega)]; omega
  have e5 : cs (16 * h) = 8 * h := by rw [cs_even _ (by omega)]; omega
  have e6 : cs (8 * h) = 4 * h := by rw [cs_even _ (by omega)]; omega
  have e7 : cs (4 * h) = 2 * h := by rw [cs_even _ (by omega)]; omega
  have e8 : cs (2 * h) = h := by rw [cs_even _ (by omega)]; omega
  simp only [csN, e1, e2, e3, e4, e5, e6, e7, e8]
theorem xor_lt32 {a b : Nat} (ha : a < 4294967296) (hb : b < 4294967296) : a ^^^ b < 4294967296 := Nat.xor_lt_two_pow (n := 32) ha hb
theorem cs_lt {x : Nat} (h : x < 4294967296) : cs x < 4294967296 := by
  unfold cs
  split
  · exact xor_lt32 (by omega) (by omega)
  · omega
theorem csN_lt {x : Nat} (h : x < 4294967296) (k : Nat) : csN k x < 4294967296 := by
  induction k with
  | zero => exact h
  | succ k ih => exact cs_lt ih
theorem crcB_lt {x : Nat} (h : x < 4294967296) (b : UInt8) : crcB x b < 4294967296 := csN_lt (xor_lt32 h (by have := b.toNat_lt; omega)) 8
theorem crcL_lt {x : Nat} (h : x < 4294967296) : ∀ l, crcL x l < 4294967296 := by
  intro l
  induction l generalizing x with
  | nil => exact h
  | cons b l ih => exact ih (crcB_lt h b)
theorem crc_lt (l : List UInt8) : crc l < 4294967296 := by unfold crc; omega
/-- The number as a high part and a low one. -/
theorem split_xor (x : Nat) : 256 * (x / 256) ^^^ x % 256 = x := by
  refine Nat.eq_of_testBit_eq fun i => ?_
  rw [Nat.testBit_xor, show (256 : Nat) = 2 ^ 8 from rfl, Nat.testBit_two_pow_mul, Nat.testBit_mod_two_pow, ← Nat.shiftRight_eq_div_pow, Nat.testBit_shiftRight]
  by_cases hi : i < 8
  · have : ¬ 8 ≤ i := by omega
    simp [hi, this]
  · have : 8 ≤ i := by omega
    simp [hi, this]
/-- A whole byte at once, as the program does it. -/
theorem crcB_eq (x : Nat) (b : UInt8) : crcB x b = x / 256 ^^^ csN 8 (x % 256 ^^^ b.toNat) := by
  unfold crcB
  conv => lhs; rw [← split_xor x]
  rw [Nat.xor_assoc, csN_xor, csN_high]

/-- A number in four bytes, the lowest first. -/
def le4 (n : Nat) : List UInt8 := [UInt8.ofNat (n % 256), UInt8.ofNat (n / 256 % 256), UInt8.ofNat (n / 65536 % 256), UInt8.ofNat (n / 16777216 % 256)]
theorem le4_len (n : Nat) : (le4 n).length = 4 := rfl
/-- The number in the first four bytes. -/
def num4 : List UInt8 → Nat
  | a :: b :: c :: d :: _ => a.toNat + 256 * b.toNat + 65536 * c.toNat + 16777216 * d.toNat
  | _ => 0
theorem num4_lt (l : List UInt8) : num4 l < 4294967296 := by
  unfold num4
  split
  · rename_i a b c d _
    have := a.toNat_lt; have := b.toNat_lt; have := c.toNat_lt; have := d.toNat_lt
    omega
  · omega
theorem num4_le4 {n : Nat} (h : n < 4294967296) (r : List UInt8) : num4 (le4 n ++ r) = n := by
  simp only [le4, num4, List.cons_append, List.nil_append, UInt8.toNat_ofNat']
  omega
theorem le4_num4 {l : List UInt8} (h : 4 ≤ l.length) : le4 (num4 l) = l.take 4 := by
  match l, h with
  | a :: b :: c :: d :: r, _ =>
    have ha := a.toNat_lt; have hb := b.toNat_lt; have hc := c.toNat_lt; have hd := d.toNat_lt
    simp only [num4, le4, List.take_succ_cons, List.take_zero]
    refine congr (congrArg List.cons ?_) (congr (congrArg List.cons ?_) (congr (congrArg List.cons ?_) (congr (congrArg List.cons ?_) rfl)))
    · apply UInt8.toNat.inj; rw [UInt8.toNat_ofNat']; omega
    · apply UInt8.toNat.inj; rw [UInt8.toNat_ofNat']; omega
    · apply UInt8.toNat.inj; rw [UInt8.toNat_ofNat']; omega
    · apply UInt8.toNat.inj; rw [UInt8.toNat_ofNat']; omega

/-- A frame. -/
def frame (l : List UInt8) : List UInt8 := (le4 l.length ++ l) ++ le4 (crc (le4 l.length ++ l))
theorem frame_len (l : List UInt8) : (frame l).length = l.length + 8 := by simp [frame, le4]

/-- What bytes begin with: 0 a frame, 1 nothing, 2 none, 3 a sum that isn't its own. -/
def unfWhy (b : List UInt8) : Nat :=
  if b.length = 0 then 1 else if b.length < 4 then 2 else
  if 1048576 < num4 b ∨ b.length < num4 b + 8 then 2 else
  if num4 (b.drop (num4 b + 4)) ≠ crc (b.take (num4 b + 4)) then 3 else 0
def unfData (b : List UInt8) : List UInt8 := (b.drop 4).take (num4 b)
theorem unfData_len {b : List UInt8} (h : num4 b + 8 ≤ b.length) : (unfData b).length = num4 b := by simp [unfData]; omega

theorem unf_frame {l : List UInt8} (h : l.length ≤ 1048576) (r : List UInt8) : unfWhy (frame l ++ r) = 0 ∧ unfData (frame l ++ r) = l ∧ num4 (frame l ++ r) = l.length := by
  have hn : num4 (frame l ++ r) = l.length := by
    unfold frame
    rw [List.append_assoc, List.append_assoc, num4_le4 (by omega)]
  refine ⟨?_, ?_, hn⟩
  · unfold unfWhy
    rw [hn]
    have hl := frame_len l
    have hl2 : (frame l ++ r).length = l.length + 8 + r.length := by rw [List.length_append, hl]
    rw [hl2, if_neg (by omega), if_neg (by omega), if_neg (by omega), if_neg]
    have e1 : (frame l ++ r).drop (l.length + 4) = le4 (crc (le4 l.length ++ l)) ++ r := by
      unfold frame
      rw [List.append_assoc]
      exact List.drop_left' (by simp [le4])
    have e2 : (frame l ++ r).take (l.length + 4) = le4 l.length ++ l := by
      unfold frame
      rw [List.append_assoc]
      exact List.take_left' (by simp [le4])
    rw [e1, e2, num4_le4 (crc_lt _)]
    simp
  · unfold unfData
    rw [hn]
    unfold frame
    rw [List.append_assoc, List.append_assoc]
    rw [List.drop_left' (le4_len _)]
    exact List.take_left' rfl
/-- A piece of a frame is none. -/
theorem unf_piece {l p : List UInt8} (h : l.length ≤ 1048576) (hp : p <+: frame l) (hl : p.length < l.length + 8) : unfWhy p = if p.length = 0 then 1 else 2 := by
  unfold unfWhy
  split
  · rfl
  · split
    · rfl
    · obtain ⟨t, ht⟩ := hp
      have hn : num4 p = l.length := by
        have h4 : 4 ≤ p.length := by omega
        have e : num4 (p ++ t) = num4 p := by
          match p, h4 with
          | _ :: _ :: _ :: _ :: _, _ => rfl
        rw [← e, ht]
        have := (unf_frame h []).2.2
        simpa using this
      rw [if_pos (.inr (by omega))]

/-- What lies in a log: the records, how many bytes they take, and how it ends. -/
def scan : Nat → List UInt8 → List (List UInt8) × Nat × Nat
  | 0, _ => ([], 0, 1)
  | k + 1, b => if unfWhy b = 0 then
      let r := scan k (b.drop (num4 b + 8))
      (unfData b :: r.1, num4 b + 8 + r.2.1, r.2.2)
    else ([], 0, unfWhy b)
def scanL (b : List UInt8) : List (List UInt8) × Nat × Nat := scan (b.length + 1) b

theorem unf0 {b : List UInt8} (h : unfWhy b = 0) : num4 b ≤ 1048576 ∧ num4 b + 8 ≤ b.length := by
  unfold unfWhy at h
  split at h
  · omega
  · split at h
    · omega
    · split at h
      · omega
      · rename_i h3; omega
theorem scan_fuel : ∀ (k j : Nat) (b : List UInt8), b.length < k → b.length < j → scan k b = scan j b := by
  intro k
  induction k with
  | zero => intro j b h; omega
  | succ k ih =>
    intro j b h1 h2
    match j, h2 with
    | j + 1, h2 =>
      simp only [scan]
      split
      · rename_i h0
        have := unf0 h0
        rw [ih j (b.drop (num4 b + 8)) (by simp; omega) (by simp; omega)]
      · rfl
theorem scanL_step {b : List UInt8} (h : unfWhy b = 0) : scanL b = (unfData b :: (scanL (b.drop (num4 b + 8))).1, num4 b + 8 + (scanL (b.drop (num4 b + 8))).2.1, (scanL (b.drop (num4 b + 8))).2.2) := by
  have := unf0 h
  unfold scanL
  conv => lhs; unfold scan
  rw [if_pos h]
  simp only
  rw [scan_fuel b.length ((b.drop (num4 b + 8)).length + 1) (b.drop (num4 b + 8)) (by simp; omega) (by simp)]
theorem scanL_end {b : List UInt8} (h : unfWhy b ≠ 0) : scanL b = ([], 0, unfWhy b) := by
  unfold scanL scan
  rw [if_neg h]

/-- The frames of some records. -/
def frames (l : List (List UInt8)) : List UInt8 := (l.map frame).flatten
def sizes : List (List UInt8) → Nat
  | [] => 0
  | r :: l => r.length + 8 + sizes l
theorem sizes_append (a b : List (List UInt8)) : sizes (a ++ b) = sizes a + sizes b := by
  induction a with
  | nil => simp [sizes]
  | cons r a ih => simp only [List.cons_append, sizes, ih]; omega
theorem frames_len (l : List (List UInt8)) : (frames l).length = sizes l := by
  induction l with
  | nil => rfl
  | cons r l ih =>
    unfold frames at *
    simp only [List.map_cons, List.flatten_cons, List.length_append, sizes, ih, frame_len]
theorem frames_append (a b : List (List UInt8)) : frames (a ++ b) = frames a ++ frames b := by simp [frames]
theorem scan_sizes (k : Nat) : ∀ b, (scan k b).2.1 = sizes (scan k b).1 := by
  induction k with
  | zero => intro b; rfl
  | succ k ih =>
    intro b
    simp only [scan]
    split
    · rename_i h0
      have := unf0 h0
      simp only [sizes]
      rw [ih, unfData_len this.2]
    · rfl
theorem scanL_sizes (b : List UInt8) : (scanL b).2.1 = sizes (scanL b).1 := scan_sizes _ b
theorem scan_bound (k : Nat) : ∀ b, (scan k b).2.1 ≤ b.length := by
  induction k with
  | zero => intro b; simp [scan]
  | succ k ih =>
    intro b
    simp only [scan]
    split
    · rename_i h0
      have := unf0 h0
      have h2 := ih (b.drop (num4 b + 8))
      simp at h2
      simp only
      omega
    · simp
theorem scanL_bound (b : List UInt8) : (scanL b).2.1 ≤ b.length := scan_bound _ b
theorem unfWhy_le (b : List UInt8) : unfWhy b ≤ 3 := by unfold unfWhy; repeat (first | omega | split)
/-- Whole records, and a piece of one behind them. -/
theorem scanL_frames {p : List UInt8} : ∀ {l : List (List UInt8)}, (∀ r ∈ l, r.length ≤ 1048576) → unfWhy p ≠ 0 → scanL (frames l ++ p) = (l, sizes l, unfWhy p)
  | [], _, hp => by
    simp only [frames, List.map_nil, List.flatten_nil, List.nil_append, sizes]
    exact scanL_end hp
  | r :: l, h, hp => by
    have h0 := unf_frame (h r List.mem_cons_self) (frames l ++ p)
    have e : frames (r :: l) ++ p = frame r ++ (frames l ++ p) := by simp [frames]
    rw [e, scanL_step h0.1, h0.2.1, h0.2.2]
    have e2 : (frame r ++ (frames l ++ p)).drop (r.length + 8) = frames l ++ p := List.drop_left' (frame_len r)
    rw [e2, scanL_frames (fun x hx => h x (List.mem_cons_of_mem _ hx)) hp]
    simp [sizes]
/-- A beginning of frames: whole records, and a piece of one. -/
theorem frames_cut : ∀ {l : List (List UInt8)} {n : Nat}, (∀ r ∈ l, r.length ≤ 1048576) → n ≤ sizes l →
    ∃ k p, k ≤ l.length ∧ (frames l).take n = frames (l.take k) ++ p ∧ unfWhy p = (if p.length = 0 then 1 else 2) ∧ n = sizes (l.take k) + p.length
  | [], n, _, hn => ⟨0, [], Nat.le_refl _, by simp [frames], by simp [unfWhy], by simp [sizes] at hn ⊢; omega⟩
  | r :: l, n, h, hn => by
    by_cases hr : r.length + 8 ≤ n
    · obtain ⟨k, p, hk, e, hw, hs⟩ := frames_cut (l := l) (n := n - (r.length + 8)) (fun x hx => h x (List.mem_cons_of_mem _ hx)) (by simp only [sizes] at hn; omega)
      refine ⟨k + 1, p, by simp; omega, ?_, hw, by simp only [List.take_succ_cons, sizes]; omega⟩
      have e1 : frames (r :: l) = frame r ++ frames l := by simp [frames]
      have e2 : frames ((r :: l).take (k + 1)) = frame r ++ frames (l.take k) := by simp [frames]
      rw [e1, e2, List.append_assoc, ← e, List.take_append, frame_len, List.take_of_length_le (by rw [frame_len]; exact hr)]
    · have e1 : frames (r :: l) = frame r ++ frames l := by simp [frames]
      have e2 : (frames (r :: l)).take n = (frame r).take n := by
        rw [e1, List.take_append_of_le_length (by rw [frame_len]; omega)]
      have hlen : ((frame r).take n).length = n := by rw [List.length_take, frame_len]; omega
      exact ⟨0, (frame r).take n, by simp, by rw [e2]; simp [frames], unf_piece (h r List.mem_cons_self) (List.take_prefix _ _) (by omega), by simp [sizes, hlen]⟩
end Go.Proofs.Ytclbapmjhchokaa
