/- What the evaluator knows of things of several blocks. No conditions: definitions alone. -/
import Derived.WalkKit
namespace Go.VS
inductive Ob where
  | none
end Go.VS
