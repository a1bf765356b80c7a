/-
  GreatestOrder: the tables of the program and of the reference as plain functions, and that they answer alike (61 sums, by the kernel's reckoning). No program is named here.
-/
import Derived.Test.YtaedgicglddihaaLeafA
namespace Go.Proofs.Ytaedgicglddihaa

def ordPrime (p : Nat) : Bool := (List.range p).all fun d => decide (d < 2) || decide (p < d * d) || decide (p % d ≠ 0)

/-- The powers of p up to a bound, from the power q on. -/
def ordPowers (p bound : Nat) : Nat → Nat → List Nat
  | 0, _ => []
  | fuel + 1, q => if q ≤ bound then q :: ordPowers p bound fuel (q * p) else []

/-- The program's table: a value and its powers for each sum. -/
abbrev OTab := List (Nat × List Nat)
def ordCell (best next : OTab) (power s : Nat) : OTab :=
  let old := best[s - power]?.getD (0, [])
  if (next[s]?.getD (0, [])).1 < old.1 * power then next.set s (old.1 * power, old.2 ++ [power]) else next
def ordRow (best : OTab) (sum : Nat) (next : OTab) (power : Nat) : OTab := ((List.range (sum + 1 - power)).map (· + power)).foldl (fun t s => ordCell best t power s) next
def ordPrimeStep (sum : Nat) (best : OTab) (p : Nat) : OTab := if ordPrime p then (ordPowers p sum 6 p).foldl (ordRow best sum) best else best
def ordTab (sum : Nat) : OTab := ((List.range (sum - 1)).map (· + 2)).foldl (ordPrimeStep sum) (List.replicate (sum + 1) (1, []))
def ordPut (l : List Nat) (n : Nat) : List Nat := l.filter (fun x => decide (x < n)) ++ [n] ++ l.filter (fun x => decide (n < x))
def ordSorted (l : List Nat) : List Nat := l.foldl ordPut []
def ordImpl (sum : Nat) : Nat × List Nat :=
  let out := (ordTab sum)[sum]?.getD (0, [])
  (out.1, ordSorted out.2)

/-- The reference's tables, downward in place. -/
def ordPow (n : Nat) (t : OTab) (power : Nat) : OTab :=
  let old := t[n - power]?.getD (0, [])
  if (t[n]?.getD (0, [])).1 < old.1 * power then t.set n (old.1 * power, ordPut old.2 power) else t
def ordNum (p : Nat) (t : OTab) (n : Nat) : OTab := (ordPowers p n 6 p).foldl (ordPow n) t
def ordPrimeS (sum : Nat) (t : OTab) (p : Nat) : OTab := if ordPrime p then (((List.range (sum + 1 - p)).map (· + p)).reverse).foldl (ordNum p) t else t
def ordSpec (sum : Nat) : Nat × List Nat := (((List.range (sum - 1)).map (· + 2)).foldl (ordPrimeS sum) (List.replicate (sum + 1) (1, [])))[sum]?.getD (0, [])

end Go.Proofs.Ytaedgicglddihaa
