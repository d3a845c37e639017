/- strings.Builder at this program: Len, WriteString. -/
import Derived.Test.YtmbnmbgihcmapaaDoorRk
namespace Go.Proofs.YtmbnmbgihcmapaaDoor
open Go Go.RowKit
set_option linter.all false
set_option pp.deepTerms true
set_option pp.maxSteps 200000
set_option maxRecDepth 100000
set_option maxHeartbeats 8000000
theorem yStr' : YSpecOk Tryd.prog 53 (kStr 75 5) := yStr lays169 bExtra rfl rfl rfl
theorem len_ok {p : AV} {n : Nat} {o : AObj} (hp : okP p = true) (ho : (∃ T e xs, o = .arr T e xs) ∨ o = .dead) : HOk Tryd.prog 54 [.ptr 0 0] [.cells 75 [p, .osl 1 n], o] (.int .i64 n) [.cells 75 [p, .osl 1 n], o] := by
  refine HOk_introY [false] [0, 1] rfl Tryd.func54 rfl ?_
  intro hw C hC
  have hΓ := (noC_ok : CtrsOk Tryd.prog noC)
  refine ACode_ok (τ := tau) hΓ mixed _ _ _ ?_
  rcases okP_ok hp with rfl | rfl <;> rcases ho with ⟨T, e, xs, rfl⟩ | rfl <;> simp [Tryd.f54] <;> simp [↓retYQ_ret, ↓retYQ_normal]
def kL : List AV → List AObj → Option HR
  | [.ptr 0 0], [.cells t [p, .osl 1 n], .arr T e xs] => if t = 75 ∧ okP p = true then some ⟨True, .int .i64 n, [.cells 75 [p, .osl 1 n], .arr T e xs]⟩ else none
  | [.ptr 0 0], [.cells t [p, .osl 1 n], .dead] => if t = 75 ∧ okP p = true then some ⟨True, .int .i64 n, [.cells 75 [p, .osl 1 n], .dead]⟩ else none
  | _, _ => none
attribute [simp] kL
theorem yLen : YSpecOk Tryd.prog 54 kL := by
  intro args H0 r hK hp
  unfold kL at hK
  split at hK
  · split at hK
    · rename_i h
      obtain ⟨rfl, hok⟩ := h
      simp only [Option.some.injEq] at hK; subst hK
      exact len_ok hok (.inl ⟨_, _, _, rfl⟩)
    · cases hK
  · split at hK
    · rename_i h
      obtain ⟨rfl, hok⟩ := h
      simp only [Option.some.injEq] at hK; subst hK
      exact len_ok hok (.inr rfl)
    · cases hK
  · cases hK
theorem ws_ok {p : AV} {s : List UInt8} {xs : List UInt8} (hp : okP p = true) (hl : xs.length + s.length ≤ 1048576) :
    HOk Tryd.prog 51 [.ptr 0 0, .str s] [.cells 75 [p, .osl 1 xs.length], .arr .byte 5 xs] (.tup [.int .i64 s.length, .nili]) [.cells 75 [.ptr 0 0, .osl 2 (xs.length + s.length)], .dead, .arr .byte 5 (xs ++ s)] := by
  refine HOk_introY [false] [0, 1] rfl Tryd.func51 rfl ?_
  intro hw C hC
  have hΓ := CtrsOk.addY (ms := [true]) yChk' (noC_ok : CtrsOk Tryd.prog noC)
  refine ACode_ok (τ := tau) hΓ mixed _ _ _ ?_
  rcases okP_ok hp with rfl | rfl
  · simp [Tryd.f51, maxB]
    repeat' (first | with_reducible refine And.intro ?_ ?_ | with_reducible intro _ | (show ¬ _; intro _))
    all_goals first
      | omega
      | (simp [↓retYQ_ret, ↓retYQ_normal]; done)
      | trace_state
  · simp [Tryd.f51, maxB]
    repeat' (first | with_reducible refine And.intro ?_ ?_ | with_reducible intro _ | (show ¬ _; intro _))
    all_goals first
      | omega
      | (simp [↓retYQ_ret, ↓retYQ_normal]; done)
      | trace_state
theorem yWS : YSpecOk Tryd.prog 51 (kWS 75 5) := by
  intro args H0 r hK hp
  unfold kWS at hK
  split at hK
  · rename_i s t p n T e' xs
    split at hK
    · rename_i hT
      subst hT
      split at hK
      · rename_i h
        simp only [Option.some.injEq] at hK
        subst hK
        obtain ⟨rfl, rfl, h3⟩ := h
        obtain ⟨h1, h2⟩ : n = xs.length ∧ xs.length + s.length ≤ 1048576 := hp
        subst h1
        exact ws_ok h3 h2
      · cases hK
    · cases hK
  · cases hK
end Go.Proofs.YtmbnmbgihcmapaaDoor
