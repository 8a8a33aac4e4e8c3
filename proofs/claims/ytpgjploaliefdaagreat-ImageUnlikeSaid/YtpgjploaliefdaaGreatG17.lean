/- frames.read. LONE=1. No conditions. -/
import Derived.Test.YtpgjploaliefdaaGreatFf
import Derived.Test.YtpgjploaliefdaaGreatFe
import Derived.Laws.ResultCell
namespace Go.Proofs.YtpgjploaliefdaaGreat.fr
open Go.RowKit cm cw
set_option linter.unusedVariables false
set_option linter.unusedSimpArgs false
theorem vt_ok : ∀ (l : List Nat) (n v : Nat) {v' k : Nat}, (∀ b ∈ l, b < 256) → v < 128 ^ n → n ≤ 9 → vt n v l = .ok v' k → n < k ∧ k ≤ n + l.length ∧ v' < 18446744073709551616
 | [], n, v, v', k, _, _, _, h => by simp [vt] at h
 | b :: t, n, v, v', k, hl, hv, hn, h => by
  rw [vt] at h
  split at h
  ·cases h
  ·rename_i hf
   split at h
   ·rename_i hb
    cases h
    refine ⟨by omega, by simp, ?_⟩
    rcases Nat.lt_or_ge n 9 with h8 | h8
    ·have h1 : (128 : Nat) ^ n ≤ 128 ^ 8 := Nat.pow_le_pow_right (by omega) (by omega)
     have h2 : b * 128 ^ n ≤ 127 * 128 ^ 8 := Nat.mul_le_mul (by omega) h1
     have h3 : (128 : Nat) ^ 8 = 72057594037927936 := by decide
     omega
    ·obtain rfl : n = 9 := by omega
     have h3 : (128 : Nat) ^ 9 = 9223372036854775808 := by decide
     have : b < 2 := by omega
     omega
   ·rename_i hb
    have hn8 : n ≤ 8 := by
     rcases Nat.lt_or_ge n 9 with h8 | h8
     ·omega
     ·exact absurd (.inl ⟨by omega, by omega⟩) hf
    have hnew : v + (b - 128) * 128 ^ n < 128 ^ (n + 1) := by
     have hbb : b < 256 := hl b (by simp)
     have h1 : (b - 128) * 128 ^ n ≤ 127 * 128 ^ n := Nat.mul_le_mul_right _ (by omega)
     rw [Nat.pow_succ]
     omega
    have := vt_ok t (n + 1) _ (fun x hx => hl x (List.mem_cons_of_mem _ hx)) hnew (by omega) h
    simp
    omega
inductive RD where
 | ok (a b n : Nat)
 | bad (e : Int)
def rd (l : List Nat) (at_ : Nat) : RD :=
 match l.drop at_ with
 | [] => .bad 2
 | b :: t => if b < 1 ∨ 127 < b then .bad 3 else
  match vt 0 0 t with
  | .short => .bad 2
  | .form => .bad 3
  | .ok v k => if at_ + 1 + k + v + 4 ≤ l.length then .ok at_ (at_ + 1 + k) (at_ + 1 + k + v) else .bad 2
def rdV : RD → Value
 | .ok a b n => .tuple #[.agg #[.int .i64 (a : Int), .int .i64 (b : Int), .int .i64 (n : Int)], .int .i64 0]
 | .bad e => .tuple #[.agg #[.int .i64 0, .int .i64 0, .int .i64 0], .int .i64 e]
end Go.Proofs.YtpgjploaliefdaaGreat.fr
namespace Go.Proofs.YtpgjploaliefdaaGreat.fl
open cm cw fr
set_option linter.unusedVariables false
set_option linter.unusedSimpArgs false
def By (l : List Nat) : Prop := ∀ b ∈ l, b < 256
theorem By.app {a b : List Nat} (h : By a) (k : By b) : By (a ++ b) := fun x hx => (List.mem_append.1 hx).elim (h x) (k x)
theorem By.left {a b : List Nat} (h : By (a ++ b)) : By a := fun x hx => h x (List.mem_append_left _ hx)
theorem By.right {a b : List Nat} (h : By (a ++ b)) : By b := fun x hx => h x (List.mem_append_right _ hx)
theorem By.drop {a : List Nat} (h : By a) (k : Nat) : By (a.drop k) := fun x hx => h x (List.mem_of_mem_drop hx)
theorem By.take {a : List Nat} (h : By a) (k : Nat) : By (a.take k) := fun x hx => h x (List.mem_of_mem_take hx)
theorem By.putN : ∀ v, By (putN v) := by
 intro v
 induction v using Nat.strongRecOn with
 | ind v ih =>
  by_cases h : v < 128
  ·rw [putN_lo h]; intro b hb; simp at hb; omega
  ·rw [putN_hi h]; intro b hb
   rcases List.mem_cons.1 hb with h1 | h1
   ·omega
   ·exact ih (v / 128) (by omega) b h1
theorem le4_len (x : Nat) : (le4 x).length = 4 := by simp [le4]
theorem By.le4 (x : Nat) : By (le4 x) := by
 intro b hb
 unfold cm.le4 at hb
 simp at hb
 omega
theorem le4_inj {x y : Nat} (hx : x < 4294967296) (hy : y < 4294967296) (h : le4 x = le4 y) : x = y := by
 rw [← num_le4 x hx, ← num_le4 y hy, h]
theorem sum_lt {l : List Nat} (h : By l) : sumN l < 4294967296 := moreN_lt l (by omega) h
theorem vt_put (rest : List Nat) : ∀ (v n acc : Nat), n ≤ 9 → v * 128 ^ n < 18446744073709551616 → (0 < n → 0 < v) → vt n acc (putN v ++ rest) = .ok (acc + v * 128 ^ n) (n + (putN v).length) := by
 intro v
 induction v using Nat.strongRecOn with
 | ind v ih =>
  intro n acc hn hv h0
  have h9 : (128 : Nat) ^ 9 = 9223372036854775808 := by decide
  by_cases h : v < 128
  ·rw [putN_lo h, List.singleton_append, vt, if_neg, if_pos h]
   ·rfl
   ·rintro (⟨rfl, h1⟩ | ⟨h1, h2⟩)
    ·omega
    ·have := h0 h1; omega
  ·have hn8 : n ≤ 8 := by
    rcases Nat.lt_or_ge n 9 with h1 | h1
    ·omega
    ·obtain rfl : n = 9 := by omega
     omega
   rw [putN_hi h, List.cons_append, vt, if_neg (by omega), if_neg (by omega), ih (v / 128) (by omega) (n + 1) _ (by omega) ?_ (by omega)]
   ·have e : acc + (v % 128 + 128 - 128) * 128 ^ n + v / 128 * 128 ^ (n + 1) = acc + v * 128 ^ n := by
     rw [Nat.pow_succ, Nat.add_sub_cancel, Nat.add_assoc, Nat.mul_comm (128 ^ n) 128, ← Nat.mul_assoc, ← Nat.add_mul]
     congr 2
     omega
    rw [e, List.length_cons]
    congr 1
    omega
   ·refine Nat.lt_of_le_of_lt ?_ hv
    rw [Nat.pow_succ, Nat.mul_comm (128 ^ n) 128, ← Nat.mul_assoc]
    exact Nat.mul_le_mul_right _ (by omega)
theorem vt_form : ∀ (l : List Nat) (n acc v k : Nat), By l → vt n acc l = .ok v k → ∃ x, v = acc + x * 128 ^ n ∧ k = n + (putN x).length ∧ l.take (putN x).length = putN x ∧ (0 < n → 0 < x)
 | [], n, acc, v, k, _, h => by simp [vt] at h
 | b :: t, n, acc, v, k, hl, h => by
  rw [vt] at h
  split at h
  ·cases h
  ·rename_i hf
   split at h
   ·rename_i hb
    cases h
    exact ⟨b, rfl, by rw [putN_lo hb]; rfl, by rw [putN_lo hb]; rfl, fun h => by rcases Nat.eq_zero_or_pos b with e | e; exact absurd (.inr ⟨h, e⟩) hf; exact e⟩
   ·rename_i hb
    have hbb : b < 256 := hl b (by simp)
    obtain ⟨x, h1, h2, h3, h4⟩ := vt_form t (n + 1) _ v k (fun y hy => hl y (List.mem_cons_of_mem _ hy)) h
    have hx := h4 (by omega)
    have hm : (b - 128 + 128 * x) % 128 + 128 = b := by omega
    have hd : (b - 128 + 128 * x) / 128 = x := by omega
    have e : putN (b - 128 + 128 * x) = b :: putN x := by rw [putN_hi (by omega), hm, hd]
    refine ⟨b - 128 + 128 * x, ?_, ?_, ?_, fun _ => by omega⟩
    ·rw [h1, Nat.pow_succ, Nat.add_mul, Nat.mul_comm (128 ^ n) 128, ← Nat.mul_assoc, Nat.mul_comm x 128, Nat.add_assoc]
    ·rw [e, h2, List.length_cons]; omega
    ·rw [e, List.length_cons, List.take_succ_cons, h3]
theorem vt_cut (rest : List Nat) : ∀ (v n acc m : Nat), n ≤ 9 → v * 128 ^ n < 18446744073709551616 → (0 < n → 0 < v) → m < (putN v).length → vt n acc ((putN v).take m) = .short := by
 intro v
 induction v using Nat.strongRecOn with
 | ind v ih =>
  intro n acc m hn hv h0 hm
  have h9 : (128 : Nat) ^ 9 = 9223372036854775808 := by decide
  rcases m with _ | m
  ·rfl
  ·by_cases h : v < 128
   ·rw [putN_lo h] at hm; simp at hm
   ·have hn8 : n ≤ 8 := by
     rcases Nat.lt_or_ge n 9 with h1 | h1
     ·omega
     ·obtain rfl : n = 9 := by omega
      omega
    rw [putN_hi h] at hm ⊢
    rw [List.take_succ_cons, vt, if_neg (by omega), if_neg (by omega)]
    refine ih (v / 128) (by omega) (n + 1) _ m (by omega) ?_ (by omega) (by simp at hm; omega)
    refine Nat.lt_of_le_of_lt ?_ hv
    rw [Nat.pow_succ, Nat.mul_comm (128 ^ n) 128, ← Nat.mul_assoc]
    exact Nat.mul_le_mul_right _ (by omega)
def hdL (id : Nat) (body : List Nat) : List Nat := id :: (putN body.length ++ body)
def frL (id : Nat) (body : List Nat) : List Nat := hdL id body ++ le4 (sumN (hdL id body))
abbrev Fr := Nat × List Nat
def Fr.Ok (f : Fr) : Prop := (1 ≤ f.1 ∧ f.1 ≤ 127) ∧ By f.2 ∧ f.2.length < 18446744073709551616
inductive PF where
 | ok (id : Nat) (body rest : List Nat)
 | bad (e : Int)
def pf : List Nat → PF
 | [] => .bad 2
 | b :: t => if b < 1 ∨ 127 < b then .bad 3 else match vt 0 0 t with
  | .short => .bad 2
  | .form => .bad 3
  | .ok v k => if k + v + 4 ≤ t.length then
    (if (t.drop (k + v)).take 4 = le4 (sumN (b :: t.take (k + v))) then .ok b ((t.drop k).take v) (t.drop (k + v + 4)) else .bad 4)
   else .bad 2
theorem pf_cons (b : Nat) (t : List Nat) : pf (b :: t) = if b < 1 ∨ 127 < b then .bad 3 else match vt 0 0 t with
  | .short => .bad 2
  | .form => .bad 3
  | .ok v k => if k + v + 4 ≤ t.length then
    (if (t.drop (k + v)).take 4 = le4 (sumN (b :: t.take (k + v))) then .ok b ((t.drop k).take v) (t.drop (k + v + 4)) else .bad 4)
   else .bad 2 := rfl
theorem hdL_by {f : Fr} (h : f.Ok) : By (hdL f.1 f.2) := by
 intro b hb
 unfold hdL at hb
 rcases List.mem_cons.1 hb with h1 | h1
 ·have := h.1.2; omega
 ·exact (By.putN _).app h.2.1 b h1
theorem frL_by {f : Fr} (h : f.Ok) : By (frL f.1 f.2) := (hdL_by h).app (By.le4 _)
theorem frL_cons (id : Nat) (body : List Nat) : frL id body = id :: (putN body.length ++ body ++ le4 (sumN (hdL id body))) := by simp [frL, hdL]
theorem frL_len (id : Nat) (body : List Nat) : (frL id body).length = 5 + (putN body.length).length + body.length := by simp [frL_cons, le4_len]; omega
theorem pf_any {id : Nat} {body sum rest : List Nat} (hid : 1 ≤ id ∧ id ≤ 127) (hl : body.length < 18446744073709551616) (hs : sum.length = 4) :
  pf (id :: (putN body.length ++ body ++ sum) ++ rest) = if sum = le4 (sumN (hdL id body)) then .ok id body rest else .bad 4 := by
 rw [List.cons_append, pf_cons, if_neg (by omega)]
 have e : putN body.length ++ body ++ sum ++ rest = putN body.length ++ (body ++ sum ++ rest) := by simp
 have hv := vt_put (body ++ sum ++ rest) body.length 0 0 (by omega) (by simpa using hl) (by omega)
 simp only [Nat.pow_zero, Nat.mul_one, Nat.zero_add] at hv
 rw [e, hv]
 simp only
 rw [if_pos (by simp; omega)]
 have t1 : (putN body.length ++ (body ++ sum ++ rest)).drop ((putN body.length).length + body.length) = sum ++ rest := by
  rw [List.drop_append, List.drop_of_length_le (by omega), List.nil_append, Nat.add_sub_cancel_left, List.append_assoc, List.drop_append, List.drop_of_length_le (by omega)]
  simp
 have t2 : (putN body.length ++ (body ++ sum ++ rest)).take ((putN body.length).length + body.length) = putN body.length ++ body := by
  rw [List.take_append, List.take_of_length_le (by omega), Nat.add_sub_cancel_left, List.append_assoc, List.take_append, List.take_of_length_le (by omega)]
  simp
 have t3 : ((putN body.length ++ (body ++ sum ++ rest)).drop (putN body.length).length).take body.length = body := by
  rw [List.drop_append, List.drop_of_length_le (by omega)]
  simp
 have t4 : (putN body.length ++ (body ++ sum ++ rest)).drop ((putN body.length).length + body.length + 4) = rest := by
  rw [← List.drop_drop, t1, ← hs, List.drop_append, List.drop_of_length_le (by omega)]
  simp
 have t5 : (sum ++ rest).take 4 = sum := by rw [← hs]; simp
 rw [t1, t2, t3, t4, t5]
 rfl
theorem pf_put {f : Fr} (h : f.Ok) (rest : List Nat) : pf (frL f.1 f.2 ++ rest) = .ok f.1 f.2 rest := by
 rw [frL_cons, pf_any h.1 h.2.2 (le4_len _), if_pos rfl]
theorem pf_form {l : List Nat} {id : Nat} {body rest : List Nat} (hl : By l) (hb : l.length < 18446744073709551616) (h : pf l = .ok id body rest) : l = frL id body ++ rest ∧ Fr.Ok (id, body) := by
 cases l with
 | nil => cases h
 | cons b t =>
  have ht : By t := fun x hx => hl x (List.mem_cons_of_mem _ hx)
  rw [pf_cons] at h
  split at h
  ·cases h
  ·rename_i hid
   cases hv : vt 0 0 t with
   | short => rw [hv] at h; cases h
   | form => rw [hv] at h; cases h
   | ok v k =>
    rw [hv] at h
    simp only at h
    split at h
    ·rename_i hk
     split at h
     ·rename_i hs
      cases h
      obtain ⟨x, h1, h2, h3, _⟩ := vt_form t 0 0 v k ht hv
      simp at h1 h2
      subst h1
      subst h2
      generalize hP : putN v = p at *
      have hlen : ((t.drop p.length).take v).length = v := by simp; omega
      have hbody : t = p ++ (t.drop p.length).take v ++ (t.drop (p.length + v)).take 4 ++ t.drop (p.length + v + 4) := by
       conv => lhs; rw [← List.take_append_drop p.length t, h3, ← List.take_append_drop v (t.drop p.length), List.drop_drop, ← List.take_append_drop 4 (t.drop (p.length + v)), List.drop_drop]
       simp
      refine ⟨?_, ⟨by omega, by omega⟩, (ht.drop _).take _, by dsimp only; rw [hlen]; simp at hb; omega⟩
      have hhd : hdL id ((t.drop p.length).take v) = id :: t.take (p.length + v) := by
       unfold hdL
       rw [hlen, hP]
       congr 1
       rw [List.take_add, h3]
      rw [frL_cons, hhd, hlen, hP, ← hs, List.cons_append, ← hbody]
     ·cases h
    ·cases h
theorem pf_lt {l : List Nat} {id : Nat} {body rest : List Nat} (h : pf l = .ok id body rest) : rest.length < l.length := by
 cases l with
 | nil => cases h
 | cons b t =>
  rw [pf_cons] at h
  split at h
  ·cases h
  ·cases hv : vt 0 0 t with
   | short => rw [hv] at h; cases h
   | form => rw [hv] at h; cases h
   | ok v k =>
    rw [hv] at h
    simp only at h
    split at h
    ·split at h
     ·cases h; simp; omega
     ·cases h
    ·cases h
theorem pf_cut {f : Fr} (h : f.Ok) {m : Nat} (h0 : 0 < m) (hm : m < (frL f.1 f.2).length) : pf ((frL f.1 f.2).take m) = .bad 2 := by
 obtain ⟨m, rfl⟩ : ∃ k, m = k + 1 := ⟨m - 1, by omega⟩
 rw [frL_len] at hm
 rw [frL_cons, List.take_succ_cons, pf_cons, if_neg (by have := h.1; omega)]
 by_cases hp : m < (putN f.2.length).length
 ·rw [List.append_assoc, List.take_append_of_le_length (by omega), vt_cut [] f.2.length 0 0 m (by omega) (by simpa using h.2.2) (by omega) hp]
 ·rw [List.append_assoc, List.take_append, List.take_of_length_le (by omega)]
  have hv := vt_put ((f.2 ++ le4 (sumN (hdL f.1 f.2))).take (m - (putN f.2.length).length)) f.2.length 0 0 (by omega) (by simpa using h.2.2) (by omega)
  simp only [Nat.pow_zero, Nat.mul_one, Nat.zero_add] at hv
  rw [hv]
  simp only
  rw [if_neg (by simp [le4_len]; omega)]
def joinL (fs : List Fr) : List Nat := fs.flatMap fun f => frL f.1 f.2
inductive AL where
 | ok (fs : List Fr)
 | bad (e : Int)
def allF : Nat → List Nat → AL
 | _, [] => .ok []
 | 0, _ :: _ => .bad 0
 | n + 1, b :: t => match pf (b :: t) with
  | .bad e => .bad e
  | .ok id body rest => match allF n rest with
   | .ok fs => .ok ((id, body) :: fs)
   | .bad e => .bad e
theorem allF_step {n : Nat} {l : List Nat} (h : l ≠ []) : allF (n + 1) l = match pf l with
  | .bad e => .bad e
  | .ok id body rest => match allF n rest with
   | .ok fs => .ok ((id, body) :: fs)
   | .bad e => .bad e := by
 cases l with
 | nil => exact absurd rfl h
 | cons b t => rfl
theorem allF_fuel : ∀ (n : Nat) (l : List Nat), l.length ≤ n → allF n l = allF l.length l := by
 intro n
 induction n using Nat.strongRecOn with
 | ind n ih =>
  intro l h
  cases l with
  | nil => cases n <;> rfl
  | cons b t =>
   obtain ⟨n, rfl⟩ : ∃ k, n = k + 1 := ⟨n - 1, by simp at h; omega⟩
   rw [allF_step (by simp), List.length_cons, allF_step (by simp)]
   cases hp : pf (b :: t) with
   | bad e => rfl
   | ok id body rest =>
    have := pf_lt hp
    simp at this h
    simp only
    rw [ih n (by omega) rest (by omega), ih t.length (by omega) rest (by omega)]
def allL (l : List Nat) : AL := allF l.length l
theorem allL_step {l : List Nat} (h : l ≠ []) : allL l = match pf l with
  | .bad e => .bad e
  | .ok id body rest => match allL rest with
   | .ok fs => .ok ((id, body) :: fs)
   | .bad e => .bad e := by
 unfold allL
 cases l with
 | nil => exact absurd rfl h
 | cons b t =>
  rw [List.length_cons, allF_step (by simp)]
  cases hp : pf (b :: t) with
  | bad e => rfl
  | ok id body rest =>
   have := pf_lt hp
   simp at this
   simp only
   rw [allF_fuel _ rest (by omega)]
theorem allL_nil : allL [] = .ok [] := rfl
def ahead (fs : List Fr) : AL → AL
 | .ok gs => .ok (fs ++ gs)
 | .bad e => .bad e
theorem joinL_cons (f : Fr) (fs : List Fr) : joinL (f :: fs) = frL f.1 f.2 ++ joinL fs := by simp [joinL]
theorem joinL_app (a b : List Fr) : joinL (a ++ b) = joinL a ++ joinL b := by simp [joinL]
theorem allL_join : ∀ (fs : List Fr) (rest : List Nat), (∀ f ∈ fs, f.Ok) → allL (joinL fs ++ rest) = ahead fs (allL rest)
 | [], rest, _ => by simp [joinL, ahead]; cases allL rest <;> rfl
 | f :: fs, rest, h => by
  rw [joinL_cons, List.append_assoc, allL_step (by rw [frL_cons]; simp), pf_put (h f (by simp)), ]
  simp only
  rw [allL_join fs rest (fun g hg => h g (List.mem_cons_of_mem _ hg))]
  cases allL rest <;> rfl
theorem allL_back {fs : List Fr} (h : ∀ f ∈ fs, f.Ok) : allL (joinL fs) = .ok fs := by
 have := allL_join fs [] h
 rw [List.append_nil, allL_nil] at this
 simpa [ahead] using this
theorem allL_form : ∀ (n : Nat) (l : List Nat) (fs : List Fr), l.length ≤ n → By l → l.length < 18446744073709551616 → allL l = .ok fs → l = joinL fs ∧ ∀ f ∈ fs, f.Ok := by
 intro n
 induction n with
 | zero =>
  intro l fs hn _ _ h
  have : l = [] := List.eq_nil_of_length_eq_zero (by omega)
  subst this
  cases h
  exact ⟨rfl, fun f hf => by simp at hf⟩
 | succ n ih =>
  intro l fs hn hl hb h
  by_cases hne : l = []
  ·subst hne
   cases h
   exact ⟨rfl, fun f hf => by simp at hf⟩
  ·rw [allL_step hne] at h
   cases hp : pf l with
   | bad e => rw [hp] at h; cases h
   | ok id body rest =>
    rw [hp] at h
    simp only at h
    have hlt := pf_lt hp
    obtain ⟨e1, hok⟩ := pf_form hl hb hp
    cases hr : allL rest with
    | bad e => rw [hr] at h; cases h
    | ok gs =>
     rw [hr] at h
     cases h
     have hrb : By rest := by rw [e1] at hl; exact hl.right
     obtain ⟨e2, hall⟩ := ih rest gs (by omega) hrb (by omega) hr
     refine ⟨by rw [joinL_cons, ← e2]; exact e1, fun f hf => ?_⟩
     rcases List.mem_cons.1 hf with e | e
     ·rw [e]; exact hok
     ·exact hall f e
theorem fr_free {f g : Fr} (hf : f.Ok) (hg : g.Ok) {x : List Nat} (h : frL g.1 g.2 = frL f.1 f.2 ++ x) : f = g := by
 have h1 := pf_put hf x
 have h2 := pf_put hg []
 rw [List.append_nil, h, h1] at h2
 injection h2 with a b c
 exact Prod.ext a b
end Go.Proofs.YtpgjploaliefdaaGreat.fl
